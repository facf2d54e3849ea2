/- Worlds and steps of acts over the list of blocks: the contracts of act anew. No walk. · gantkeep4.Walk. Printed by gen/ordm.py. · order.touch: the closure. Printed by gen/ordm.py. · order.touch: what it answers. Printed by gen/ordm.py. · order.touch: its cases. Printed by gen/ordm.py. · order.touch; rows of things. Printed by gen/ordm.py. · order.Things. Printed by gen/ordm.py. · order.Before: the closure. Printed by gen/ordm.py. · slices.IndexFunc, ContainsFunc at the closure of Before. Printed by gen/ordm.py. · make; what Before answers. Printed by gen/ordm.py. · order.Before. Printed by gen/ordm.py. · Neighbouring steps changed: when that order is right. No walk. · OrderMust. Printed by gen/ordm.py. · Steps that involve no common thing may change places. No walk. · A plan in another order that respects what comes before what leads to the same world. No walk. · slices.IndexFunc, ContainsFunc at the closure of Pick. Printed by gen/ordm.py. · order.Pick. Printed by gen/ordm.py. · order.Apply. Printed by gen/ordm.py. · OrderSame. Printed by gen/ordm.py. -/
import Derived.Test.YtbhbbnmllokglaaOs12
import Derived.Test.YtbhbbnmllokglaaOs21
import Derived.Test.YtbhbbnmllokglaaOs19
import Derived.Test.YtbhbbnmllokglaaOs11
import Derived.Test.YtbhbbnmllokglaaOs20
import Derived.Test.YtbhbbnmllokglaaOs7
import Derived.Test.YtbhbbnmllokglaaOs14
namespace Go.Proofs.Ytbhbbnmllokglaa
open Go.RowKit
set_option linter.unusedVariables false
set_option maxRecDepth 100000

/-- Rows that a call has made, as entries. -/
theorem ownsRow_E {w w' : World} {B : Nat} {e : TypeId} {size n : Nat} {v : Value} {xs : List Value} (h : w'.ownsRow B e size v n xs) : ∃ cur, RowV size v n xs cur ∧ ∀ x ∈ rowE v e cur, B ≤ x.1 ∧ Blk w' x.1 x.2.1 x.2.2.toArray := by
  obtain ⟨h1, h2⟩ := h
  rcases h2 with ⟨rfl, rfl⟩ | ⟨g, cap, cur, rfl, hb, hg, h3, h4, h5, h6⟩
  · exact ⟨[], ⟨h1, .inl ⟨rfl, rfl⟩⟩, by simp [rowE]⟩
  · refine ⟨cur.toList, ⟨h1, .inr ⟨g, cap, rfl, h3, h4, by simpa using h5, h6⟩⟩, fun x hx => ?_⟩
    obtain rfl := List.mem_singleton.1 hx
    exact ⟨hb, by simpa [Blk] using hg⟩
theorem Hp.made1 {w0 w w' : World} {m : Ents} (h : Hp w0 w m) (hb : Below w.heap.size w w') {B : Nat} (hB : w.heap.size ≤ B) {e : TypeId} {size n : Nat} {v : Value} {xs : List Value} (ho : w'.ownsRow B e size v n xs) : ∃ cur, RowV size v n xs cur ∧ Hp w0 w' (rowE v e cur ++ m) := by
  obtain ⟨cur, h1, h2⟩ := ownsRow_E (w := w) ho
  refine ⟨cur, h1, h.join ⟨fun x hx => ⟨Nat.le_trans hB (h2 x hx).1, (h2 x hx).2⟩, ?_, hb, h.tb⟩⟩
  obtain ⟨A, c, rfl, _⟩ := h1.shape
  cases A <;> simp [rowE]
theorem RowV.rowinA {e : TypeId} {size n : Nat} {v : Value} {xs cur : List Value} (h : RowV size v n xs cur) : RowIn (rowE v e cur) e size v n xs := ⟨cur, h, fun x hx => hx⟩
theorem Upd.appA (E : Ents) {l l' : Ents} {b : Nat} {T : TypeId} {cs ds : List Value} (h : Upd l b T cs ds l') : Upd (E ++ l) b T cs ds (E ++ l') := by
  induction E with
  | nil => exact h
  | cons x E ih => exact .tail ih
/-- The cells of a row that lies in known blocks. -/
theorem RowIn.cells_ {E : Ents} {e : TypeId} {n g c : Nat} {xs : List Value} {size : Nat} (h : RowIn E e size (.slice (some ⟨g, 0, none⟩) n c) n xs) {w : World} (hw : Hld E w) : g < w.heap.size ∧ n ≤ c ∧ xs.length = n * size ∧ ∀ (j : Nat) (u : Value), xs[j]? = some u → w.cell? ⟨g, j, none⟩ = some u := by
  obtain ⟨cur, h1, h2⟩ := h
  have hb := hw (g, e, cur) (h2 _ (by simp [rowE]))
  rcases h1.or_ with ⟨h3, _⟩ | ⟨g', cap, h3, h4, _, _, h5⟩
  · cases h3
  · cases h3
    refine ⟨hb.lt, h4, h1.len, fun j u hj => ?_⟩
    rw [hb.cell]
    rw [← h5, List.getElem?_take] at hj
    split at hj
    · simpa using hj
    · cases hj
/-- The world x: its three rows lie among the blocks E. -/
structure WE (E : Ents) (x : AW) (g1 g2 g3 n1 n3 d1 d2 d3 : Nat) : Prop where
  r1 : RowIn E 3 1 (.slice (some ⟨g1, 0, none⟩) n1 d1) n1 (x.place.map (Value.int .i64))
  r2 : RowIn E 4 1 (.slice (some ⟨g2, 0, none⟩) n1 d2) n1 (x.seen.map Value.bool)
  r3 : RowIn E 3 1 (.slice (some ⟨g3, 0, none⟩) n3 d3) n3 (x.spot.map (Value.int .i64))
theorem WE.mono {E E' : Ents} {x : AW} {g1 g2 g3 n1 n3 d1 d2 d3 : Nat} (h : WE E x g1 g2 g3 n1 n3 d1 d2 d3) (hs : ∀ y ∈ E, y ∈ E') : WE E' x g1 g2 g3 n1 n3 d1 d2 d3 := ⟨h.r1.mono hs, h.r2.mono hs, h.r3.mono hs⟩
abbrev AW.vE (x : AW) (g1 g2 g3 n1 n3 d1 d2 d3 : Nat) : Value := .agg #[.int .i64 x.slots, .slice (some ⟨g1, 0, none⟩) n1 d1, .slice (some ⟨g2, 0, none⟩) n1 d2, .slice (some ⟨g3, 0, none⟩) n3 d3]
theorem WE.rw4 {E : Ents} {x : AW} {g1 g2 g3 n1 n3 d1 d2 d3 : Nat} (h : WE E x g1 g2 g3 n1 n3 d1 d2 d3) {w : World} (hw : Hld E w) (b1 : n1 ≤ 100) (b3 : n3 ≤ 100) :
    RW4 w x (some ⟨g1, 0, none⟩) (some ⟨g2, 0, none⟩) (some ⟨g3, 0, none⟩) n1 n1 n3 d1 d2 d3 := by
  obtain ⟨a1, a2, a3, a4⟩ := h.r1.cells_ hw
  obtain ⟨e1, e2, e3, e4⟩ := h.r2.cells_ hw
  obtain ⟨f1, f2, f3, f4⟩ := h.r3.cells_ hw
  refine ⟨⟨fun _ => ⟨g1, 0, rfl, a1, fun j y hj => ?_⟩, fun _ => ⟨g2, 0, rfl, e1, fun j y i v hj hv => ?_⟩, fun _ => ⟨g3, 0, rfl, f1, fun j y hj => ?_⟩⟩, by simpa using a3, by simpa using e3, by simpa using f3, b1, b1, b3, a2, e2, f2⟩
  · rw [Nat.zero_add]; exact a4 j _ (by rw [List.getElem?_map, hj]; rfl)
  · cases i with
    | zero =>
      simp only [List.getElem?_cons_zero, Option.some.injEq] at hv
      rw [Nat.zero_add, Nat.add_zero, Nat.mul_one, ← hv]
      exact e4 j _ (by rw [List.getElem?_map, hj]; rfl)
    | succ i => simp at hv
  · rw [Nat.zero_add]; exact f4 j _ (by rw [List.getElem?_map, hj]; rfl)
/-- A world that a call has made. -/
theorem Hp.madeW {w0 w w' : World} {m : Ents} (h : Hp w0 w m) (hb : Below w.heap.size w w') {B : Nat} (hB : w.heap.size ≤ B) {x : AW} {g1 g2 g3 n1 n3 d1 d2 d3 : Nat} (ho : OW B w' x g1 g2 g3 n1 n3 d1 d2 d3) : ∃ E, WE E x g1 g2 g3 n1 n3 d1 d2 d3 ∧ Hp w0 w' (E ++ m) := by
  obtain ⟨k1, a1, a2⟩ := ownsRow_E (w := w) ho.o1
  obtain ⟨k2, e1, e2⟩ := ownsRow_E (w := w) ho.o2
  obtain ⟨k3, f1, f2⟩ := ownsRow_E (w := w) ho.o3
  have b1 := a2 _ (List.mem_singleton.2 rfl)
  have b2 := e2 _ (List.mem_singleton.2 rfl)
  have b3 := f2 _ (List.mem_singleton.2 rfl)
  have n12 : g1 ≠ g2 := b1.2.ne_ b2.2 (show 3 ≠ 4 by decide)
  have n23 : g2 ≠ g3 := b2.2.ne_ b3.2 (show 4 ≠ 3 by decide)
  refine ⟨[(g1, 3, k1), (g2, 4, k2), (g3, 3, k3)], ⟨⟨k1, a1, ?_⟩, ⟨k2, e1, ?_⟩, ⟨k3, f1, ?_⟩⟩, h.join ⟨fun x hx => ?_, ?_, hb, h.tb⟩⟩
  · intro x hx; obtain rfl := List.mem_singleton.1 hx; simp
  · intro x hx; obtain rfl := List.mem_singleton.1 hx; simp
  · intro x hx; obtain rfl := List.mem_singleton.1 hx; simp
  · simp only [List.mem_cons, List.not_mem_nil, or_false] at hx
    rcases hx with rfl | rfl | rfl
    · exact ⟨Nat.le_trans hB b1.1, b1.2⟩
    · exact ⟨Nat.le_trans hB b2.1, b2.2⟩
    · exact ⟨Nat.le_trans hB b3.1, b3.2⟩
  · simp [n12, n23, ho.ne]
/-- Steps in a row. -/
theorem RS.of {E : Ents} {A : Option Addr} {n c : Nat} {ss : List St} (h : RowIn E 79 5 (.slice A n c) n (flat St.cells ss)) {w : World} (hw : Hld E w) : RS w A ss := by
  intro hp
  obtain ⟨s0, hs0⟩ : ∃ s, ss[0]? = some s := some_at hp
  obtain ⟨g, c', e1, h1⟩ := h.at_ St.len hs0 (by decide)
  cases e1
  have hb : g < w.heap.size := by
    obtain ⟨cur, k1, k2⟩ := h
    exact (hw (g, 79, cur) (k2 _ (by simp [rowE]))).lt
  refine ⟨g, 0, rfl, hb, fun j x i u hj hu => ?_⟩
  obtain ⟨g', c'', e2, h2⟩ := h.at_ St.len hj (by decide)
  cases e2
  have := h2 w hw i u hu
  rwa [Nat.zero_add]
section
variable {x : AW} {g1 g2 g3 n1 n3 d1 d2 d3 : Nat} {w0 w : World} {m E : Ents}
theorem Do_E (H : Hp w0 w m) (hE : ∀ y ∈ E, y ∈ m) (hx : WE E x g1 g2 g3 n1 n3 d1 d2 d3) (hv : ValidA x) (b1 : 0 < n1 ∧ n1 ≤ 100) (b3 : 0 < n3 ∧ n3 ≤ 100) (s : St) (HC : canP x s = 0) :
    Calls Try.prog 21 #[x.vE g1 g2 g3 n1 n3 d1 d2 d3, .agg s.cells.toArray] w fun e w' => ∃ h1 h2 h3 c1 c2 c3 E', e = .returned (.tuple #[.agg #[.int .i64 x.slots, .slice (some ⟨h1, 0, none⟩) n1 c1, .slice (some ⟨h2, 0, none⟩) n1 c2, .slice (some ⟨h3, 0, none⟩) n3 c3], .int .i64 0]) ∧ WE E' (doS x s) h1 h2 h3 n1 n3 c1 c2 c3 ∧ Hp w0 w' (E' ++ m) := by
  obtain ⟨kind, arm, part, slot, ticks⟩ := s
  refine (Do_yes x _ _ _ n1 n3 d1 d2 d3 kind arm part slot ticks w (hx.rw4 (H.hld hE) b1.2 b3.2) hv b1.1 b3.1 (Lib.hid HC)).mono ?_
  rintro e w' ⟨h1, h2, h3, c1, c2, c3, rfl, ho, hb⟩
  obtain ⟨E', h4, h5⟩ := H.madeW hb (Nat.le_refl _) ho
  exact ⟨h1, h2, h3, c1, c2, c3, E', rfl, h4, h5⟩
theorem Steps_E (H : Hp w0 w m) (hE : ∀ y ∈ E, y ∈ m) (hx : WE E x g1 g2 g3 n1 n3 d1 d2 d3) (hv : ValidA x) (b1 : 0 < n1 ∧ n1 ≤ 100) (b3 : 0 < n3 ∧ n3 ≤ 100) :
    Calls Try.prog 20 #[x.vE g1 g2 g3 n1 n3 d1 d2 d3] w fun e w' => ∃ v ss cur, e = .returned v ∧ StepsP x ss ∧ ss.length ≤ 224 ∧ RowV 5 v ss.length (flat St.cells ss) cur ∧ Hp w0 w' (rowE v 79 cur ++ m) := by
  refine (Steps_any x _ _ _ n1 n3 d1 d2 d3 w (hx.rw4 (H.hld hE) b1.2 b3.2) hv b1.1 b3.1).mono ?_
  rintro e w' ⟨A, c, ss, rfl, h1, h2, h3, h4⟩
  obtain ⟨cur, h5, h6⟩ := H.made1 h4 (Nat.le_succ _) h3
  exact ⟨_, ss, cur, rfl, h1, h2, h5, h6⟩
theorem Run_E (H : Hp w0 w m) (hE : ∀ y ∈ E, y ∈ m) (hx : WE E x g1 g2 g3 n1 n3 d1 d2 d3) (hv : ValidA x) (b1 : 0 < n1 ∧ n1 ≤ 100) (b3 : 0 < n3 ∧ n3 ≤ 100) (A : Option Addr) (k c : Nat) (ss : List St) {Es : Ents} (hEs : ∀ y ∈ Es, y ∈ m) (hR : RowIn Es 79 5 (.slice A k c) k (flat St.cells ss)) (hk : ss.length = k) (hk2 : k ≤ 1000) (y : AW) (hy : runL x ss = some y) :
    Calls Try.prog 15 #[x.vE g1 g2 g3 n1 n3 d1 d2 d3, .slice A k c] w fun e w' => ∃ h1 h2 h3 c1 c2 c3 E', e = .returned (.tuple #[.agg #[.int .i64 y.slots, .slice (some ⟨h1, 0, none⟩) n1 c1, .slice (some ⟨h2, 0, none⟩) n1 c2, .slice (some ⟨h3, 0, none⟩) n3 c3], .int .i64 k, .int .i64 0]) ∧ WE E' y h1 h2 h3 n1 n3 c1 c2 c3 ∧ Hp w0 w' (E' ++ m) := by
  refine (Run_any x _ _ _ A n1 n3 d1 d2 d3 k c ss w (hx.rw4 (H.hld hE) b1.2 b3.2) hv (RS.of hR (H.hld hEs)) hk hk2 b1.1 b3.1).mono ?_
  rintro e w' ⟨hb, h | ⟨j, z, s, h1, h2, h3, _⟩⟩
  · obtain ⟨y', h1, h2, h3, c1, c2, c3, hy', ho, rfl⟩ := h
    obtain rfl : y' = y := Option.some.inj (hy'.symm.trans hy)
    obtain ⟨E', h4, h5⟩ := H.madeW hb (Nat.le_refl _) ho
    rw [hk]
    exact ⟨h1, h2, h3, c1, c2, c3, E', rfl, h4, h5⟩
  · exfalso
    have : ∀ (l : List St) (x z : AW) (j : Nat) (s : St), runL x (l.take j) = some z → l[j]? = some s → canP z s ≠ 0 → runL x l = none := by
      intro l
      induction l with
      | nil => intro x z j s _ h; simp at h
      | cons a l ih =>
        intro x z j s h1 h2 h3
        rw [runL_cons]
        cases j with
        | zero =>
          simp at h2
          subst h2
          rw [List.take_zero, runL_nil] at h1
          cases h1
          rw [if_neg h3]
        | succ j =>
          rw [List.take_succ_cons, runL_cons] at h1
          split at h1
          · rename_i hc
            rw [if_pos hc]
            exact ih _ z j s h1 (by simpa using h2) h3
          · cases h1
    rw [this ss x z j s h1 h2 h3] at hy
    cases hy
end
end Go.Proofs.Ytbhbbnmllokglaa

namespace Go.Proofs.Ytbhbbnmllokglaa
open Go.RowKit
set_option linter.unusedVariables false
set_option maxRecDepth 100000

theorem rWld : RowT Try.prog 25 4 := ⟨⟨_, Try.underlying25, rfl⟩, by kernel_rfl⟩
theorem rStp : RowT Try.prog 79 5 := ⟨⟨_, Try.underlying79, rfl⟩, by kernel_rfl⟩
theorem zWld : (Try.prog.info? 25).bind (·.zero) = some (.agg #[.int .i64 0, .slice none 0 0, .slice none 0 0, .slice none 0 0]) := by kernel_rfl
theorem zStp : (Try.prog.info? 79).bind (·.zero) = some (.agg #[.int .i64 0, .int .i64 0, .int .i64 0, .int .i64 0, .int .i64 0]) := by kernel_rfl
theorem kInts : ∃ d, Try.prog.underlying 22 = some d ∧ d.isRow = false := ⟨_, Try.underlying22, rfl⟩
theorem sInts : (Try.prog.info? 22).map (·.size) = some 1 := by kernel_rfl
theorem kIntA : ∃ d, Try.prog.underlying 3 = some d ∧ d.isRow = false := ⟨_, Try.underlying3, rfl⟩
theorem sIntA : (Try.prog.info? 3).map (·.size) = some 1 := by kernel_rfl
theorem kIis : ∃ d, Try.prog.underlying 40 = some d ∧ d.isRow = false := ⟨_, Try.underlying40, rfl⟩
theorem sIis : (Try.prog.info? 40).map (·.size) = some 1 := by kernel_rfl
theorem kSps : ∃ d, Try.prog.underlying 37 = some d ∧ d.isRow = false := ⟨_, Try.underlying37, rfl⟩
theorem sSps : (Try.prog.info? 37).map (·.size) = some 1 := by kernel_rfl
theorem iStp : InfoT Try.prog 79 5 40 := InfoT.of zStp (by kernel_rfl) rfl
theorem iInt1 : InfoT Try.prog 3 1 8 := InfoT.of (z := .int .i64 0) (by kernel_rfl) (by kernel_rfl) rfl
theorem runL_step {x y : AW} {ss : List St} {s : St} (h : runL x ss = some y) (hc : canP y s = 0) : runL x (ss ++ [s]) = some (doS y s) := by
  induction ss generalizing x with
  | nil =>
    rw [runL_nil] at h
    cases h
    rw [List.nil_append, runL_cons, if_pos hc, runL_nil]
  | cons a l ih =>
    rw [runL_cons] at h
    split at h
    · rename_i ha
      rw [List.cons_append, runL_cons, if_pos ha]
      exact ih h
    · cases h
theorem IntArg.ri {w0 w : World} {A : Option Addr} {n c : Nat} {xs : List Int} (h : IntArg w0 A n c xs) (hb : Below w0.heap.size w0 w) : RI w A xs := h.2.2.2.1.below hb
theorem zeq (s : St) (b : Bool) (hb : b = decide (s = ⟨0, 0, 0, 0, 0⟩)) (w : World) : Sem.run Try.prog (binOp .eql 79 (.agg #[.int .i64 s.kind, .int .i64 s.arm, .int .i64 s.part, .int .i64 s.slot, .int .i64 s.ticks]) (.agg #[.int .i64 0, .int .i64 0, .int .i64 0, .int .i64 0, .int .i64 0])) w = .ok (.bool b) w := by
  rw [hb]; exact eqS_run s ⟨0, 0, 0, 0, 0⟩ w
theorem doS_slots (x : AW) (s : St) : (doS x s).slots = x.slots := by
  unfold doS
  repeat (first | rfl | split)
theorem results_vHv {P : Program} {w0 w : World} {l : Ents} {fn : Func} {tmps : Array Value} (H : Hid (Hp w0 w l)) {j r k : Nat} {t T : TypeId} {b n : Nat} {cs : List Value} {u v : Value} (hr : fn.results = #[.tmp j, .cell r t, .tmp k]) (hT : RowT P t n) (hp : tmps.getD r undef = .pointer (some ⟨b, 0, none⟩)) (hm : (b, T, cs) ∈ l) (hu : tmps.getD j undef = u) (hv : tmps.getD k undef = v) (hl : cs.length = n) :
    (results fn tmps).run P w = .ok (.tuple #[u, .agg cs.toArray, v]) w := by
  unfold results
  rw [hr]
  have := loadVarB (P := P) (H.out.get hm) hT (by simpa using hl)
  have hp' : tmps[r]?.getD undef = .pointer (some ⟨b, 0, none⟩) := by simpa using hp
  have hv' : tmps[k]?.getD undef = v := by simpa using hv
  have hu' : tmps[j]?.getD undef = u := by simpa using hu
  simp [hp', hv', hu', asAddr, this]
theorem Hp.pickW {w0 w : World} {g b t p q : Nat × TypeId × List Value} {E' R3 R4 E1 m : Ents} (h : Hp w0 w (g :: b :: (E' ++ (t :: (R3 ++ (p :: q :: (R4 ++ (E1 ++ m)))))))) : Hp w0 w (p :: q :: (R4 ++ (E' ++ m))) := by
  have h1 : Hp w0 w (E' ++ (p :: q :: (R4 ++ m))) := h.drop.drop.sub (List.Sublist.append_left ((List.sublist_append_of_sublist_right (List.Sublist.cons_cons _ (List.Sublist.cons_cons _ (List.Sublist.append_left (List.sublist_append_right _ _) _)))).cons _) _)
  exact h1.perm (List.perm_middle.trans (.cons _ (List.perm_middle.trans (.cons _ (List.perm_append_comm_assoc _ _ _)))))
theorem St.all1 (s : St) : s.cells.all (·.oneCell') = true := rfl
set_option maxHeartbeats 4000000 in
theorem Walk_any (x : AW) (g1 g2 g3 n1 n3 d1 d2 d3 : Nat) (A : Option Addr) (n c : Nat) (xs : List Int) (w0 w : World) (m E0 : Ents) (H : Hid (Hp w0 w m)) (HE : Hid (∀ y ∈ E0, y ∈ m)) (WX : Hid (WE E0 x g1 g2 g3 n1 n3 d1 d2 d3)) (hv : Hid (ValidA x)) (b1 : 0 < n1 ∧ n1 ≤ 100) (b3 : 0 < n3 ∧ n3 ≤ 100) (IA : Hid (IntArg w0 A n c xs)) :
    Calls Try.prog 7 #[x.vE g1 g2 g3 n1 n3 d1 d2 d3, .slice A n c] w fun e w' => ∃ (v : Value) (ss : List St) (cur : List Value) (y : AW) (h1 h2 h3 e1 e2 e3 : Nat) (E1 EY : Ents), e = .returned (.tuple #[v, .agg #[.int .i64 y.slots, .slice (some ⟨h1, 0, none⟩) n1 e1, .slice (some ⟨h2, 0, none⟩) n1 e2, .slice (some ⟨h3, 0, none⟩) n3 e3], .bool true]) ∧ runL x ss = some y ∧ ss.length ≤ 12 ∧ ValidA y ∧ y.slots = x.slots ∧ WE EY y h1 h2 h3 n1 n3 e1 e2 e3 ∧ RowV 5 v ss.length (flat St.cells ss) cur ∧ (∀ z ∈ EY, z ∈ E1 ++ m) ∧ Hp w0 w' (rowE v 79 cur ++ (E1 ++ m)) := by
  obtain ⟨k, hk⟩ : ∃ k, min n 12 = k := ⟨_, rfl⟩
  have hkn : k ≤ n ∧ k ≤ 12 := by omega
  have hnc := IA.out.2.1
  have hcm := IA.out.2.2.1
  have hmin : min (n : Int) 12 = (k : Int) := by omega
  go_enter Try.func7, Try.ntmps7
  go_wp2_with (first
      | go_skip
      | ((with_reducible refine isBox ?_); refine bxA H ?_; clear H; intro b2 _ H)
      | ((with_reducible refine isAlloc ?_); refine alA H ?_ (hz := zWld); clear H; intro b5 _ H))
  go_loopw [7, 19] (fun vs i_ wr => ∃ (j : Nat) (v2 : Value) (ss : List St) (cur2 : List Value) (y : AW) (h1 h2 h3 e1 e2 e3 : Nat) (E1 EY : Ents), v2 = vs ∧ i_ = .int .i64 j ∧ j ≤ k ∧ ss.length = j ∧ Hid (runL x ss = some y) ∧ Hid (ValidA y) ∧ Hid (y.slots = x.slots) ∧ Hid (WE EY y h1 h2 h3 n1 n3 e1 e2 e3) ∧ Hid (∀ z ∈ EY, z ∈ E1 ++ m) ∧ Hid (RowV 5 v2 j (flat St.cells ss) cur2) ∧ Hid (Hp w0 wr ((b5, 25, [.int .i64 0, .slice none 0 0, .slice none 0 0, .slice none 0 0]) :: (b2, 25, [.int .i64 y.slots, .slice (some ⟨h1, 0, none⟩) n1 e1, .slice (some ⟨h2, 0, none⟩) n1 e2, .slice (some ⟨h3, 0, none⟩) n3 e3]) :: (rowE v2 79 cur2 ++ (E1 ++ m))))) (fun _ i_ _ => k - (intOf i_).toNat)
  case atStart => exact ⟨0, _, [], [], x, g1, g2, g3, d1, d2, d3, [], E0, rfl, rfl, by omega, rfl, Lib.hid (runL_nil x), hv, Lib.hid rfl, WX, HE, Lib.hid (RowV.nil 5), H⟩
  case round =>
    clear H
    obtain ⟨j, v2, ss, cur2, y, h1, h2, h3, e1, e2, e3, E1, EY, rfl, rfl, hj, hsl, RL, VY, SL, WY, HEY, R, H⟩ := hrel
    by_cases hlt : j < k
    · obtain ⟨u, hu⟩ : ∃ u, xs[j]? = some u := ⟨_, List.getElem?_eq_getElem (by rw [IA.out.1]; omega)⟩
      obtain ⟨bb, oo, rfl, hbb, hcc⟩ := (IA.out.ri H.out.bel) (by have := lt_of_at hu; omega)
      have DU : wr.cell? ⟨bb, oo + j, none⟩ = some (.int .i64 u) := hcc j u hu
      have HU := Lib.hid (IA.out.2.2.2.2 u (List.mem_of_getElem? hu))
      clear hcc hu
      go_wp2_with (first
          | go_skip
          | ((with_reducible refine isLoad ?_); refine ldA H ?_ (hT := by first | exact rWld | exact rStp) (hm := by (repeat (first | exact List.Mem.head _ | refine List.Mem.tail _ ?_ | refine List.mem_append_right _ ?_ | assumption)))))
      go_at_call 20
      refine Calls.mono (Steps_E H.out (fun z hz => .tail _ (.tail _ (List.mem_append_right _ (HEY.out z hz)))) WY.out VY.out b1 b3) ?_
      rintro _ _ ⟨v3, s3, cur3, rfl, hP, hl3, hR3, h4⟩
      obtain ⟨B3, c3, rfl, _⟩ := hR3.shape
      replace H := Lib.hid h4
      have P3 := Lib.hid hP
      have R3 := Lib.hid hR3
      clear h4 hP hR3 DU
      go_wp2_with (first
          | go_skip
          | ((with_reducible refine isLoad ?_); refine ldA H ?_ (hT := by first | exact rWld | exact rStp) (hm := by (repeat (first | exact List.Mem.head _ | refine List.Mem.tail _ ?_ | refine List.mem_append_right _ ?_ | assumption)))))
      go_at_call 19
      refine Calls.mono (pick_any B3 c3 s3 u _ (RS.of (RowV.rowinA R3.out) (H.out.hld (fun z hz => List.mem_append_left _ hz))) (by omega) HU.out.1 HU.out.2) ?_
      rintro _ _ ⟨s, rfl, hpk, hb⟩
      replace H := Lib.hid (H.out.go hb)
      have PK := Lib.hid hpk
      clear hb hpk
      by_cases hz : s = ⟨0, 0, 0, 0, 0⟩
      · have hq := zeq s true (by rw [decide_eq_true hz])
        clear hz
        go_wp2_with (first
            | go_skip
            | ((with_reducible refine isLoad ?_); refine ldA H ?_ (hT := by first | exact rWld | exact rStp) (hm := by (repeat (first | exact List.Mem.head _ | refine List.Mem.tail _ ?_ | refine List.mem_append_right _ ?_ | assumption))))
            | ((with_reducible refine isStore ?_); refine stA H ?_ (hT := by first | exact rWld | exact rStp) (hu := by (repeat (first | apply Upd.head | apply Upd.tail | apply Upd.appA | assumption))); clear H; intro _ H)
            | ((with_reducible refine isAlloc ?_); refine alA H ?_ (hz := zStp); clear H; intro b10 _ H))
        refine wp_region_Y 3 [.c (v2), .c (.agg #[.int .i64 y.slots, .slice (some ⟨h1, 0, none⟩) n1 e1, .slice (some ⟨h2, 0, none⟩) n1 e2, .slice (some ⟨h3, 0, none⟩) n3 e3]), .c (v2)] ((b10, 79, [.int .i64 s.kind, .int .i64 s.arm, .int .i64 s.part, .int .i64 s.slot, .int .i64 s.ticks]) :: (rowE (.slice B3 s3.length c3) 79 cur3 ++ ((b5, 25, [.int .i64 0, .slice none 0 0, .slice none 0 0, .slice none 0 0]) :: (b2, 25, [.int .i64 y.slots, .slice (some ⟨h1, 0, none⟩) n1 e1, .slice (some ⟨h2, 0, none⟩) n1 e2, .slice (some ⟨h3, 0, none⟩) n3 e3]) :: (rowE v2 79 cur2 ++ (E1 ++ m))))) H (by (repeat (first | exact List.Sublist.refl _ | refine List.Sublist.cons_cons _ ?_ | refine List.Sublist.append_left ?_ _ | refine List.Sublist.trans ?_ (List.sublist_append_right _ _) | refine List.Sublist.cons _ ?_))) (by kernel_rfl) (by kernel_rfl) (by kernel_rfl) ?_
        simp only [List.take_succ_cons, List.take_zero, List.drop_succ_cons, List.drop_zero]
        refine wpY_c (by rfl) (by (first | exact wanted_none rfl | exact wanted_some rfl rfl)) (by intro W _; first | (go_simp; rfl) | (go_simp; done) | (trace_state; fail)) ?_
        (simp only [Act.put, List.setIfInBounds_toArray, List.set_cons_succ, List.set_cons_zero])
        refine wpY_load (by rfl) (by rfl) (by (first | exact wanted_none rfl | exact wanted_some rfl rfl)) rWld (by rfl) (by (repeat (first | exact List.Mem.head _ | refine List.Mem.tail _ ?_ | refine List.mem_append_right _ ?_ | assumption))) (by first | rfl | ((simp only [List.drop, List.take]); rfl)) (by rfl) ?_
        (simp only [Act.put, List.setIfInBounds_toArray, List.set_cons_succ, List.set_cons_zero])
        refine wpY_c (by rfl) (by (first | exact wanted_none rfl | exact wanted_some rfl rfl)) (by intro W _; first | (go_simp; rfl) | (go_simp; done) | (trace_state; fail)) ?_
        (simp only [Act.put, List.setIfInBounds_toArray, List.set_cons_succ, List.set_cons_zero])
        refine wpY_nil ?_
        clear H
        intro _ H
        go_wp2_with (first
            | go_skip
            | ((with_reducible refine isLoad ?_); refine ldA H ?_ (hT := by first | exact rWld | exact rStp) (hm := by (repeat (first | exact List.Mem.head _ | refine List.Mem.tail _ ?_ | refine List.mem_append_right _ ?_ | assumption))))
            | ((with_reducible refine isStore ?_); refine stA H ?_ (hT := by first | exact rWld | exact rStp) (hu := by (repeat (first | apply Upd.head | apply Upd.tail | apply Upd.appA | assumption))); clear H; intro _ H)
            | ((with_reducible refine isAlloc ?_); refine alA H ?_ (hz := zStp); clear H; intro b10 _ H))
        exact bodyPost_ret (results_vHv (b := b5) H Try.results7 (by exact rWld) rfl (by (repeat (first | exact List.Mem.head _ | refine List.Mem.tail _ ?_ | refine List.mem_append_right _ ?_ | assumption))) rfl rfl (by rfl)) rfl ⟨_, ss, cur2, y, h1, h2, h3, e1, e2, e3, E1, EY, rfl, RL.out, by omega, VY.out, SL.out, WY.out, by rw [hsl]; exact R.out, HEY.out, H.out.sub (by (repeat (first | exact List.Sublist.refl _ | refine List.Sublist.cons_cons _ ?_ | refine List.Sublist.append_left ?_ _ | refine List.Sublist.trans ?_ (List.sublist_append_right _ _) | refine List.Sublist.cons _ ?_)))⟩
      · have hq := zeq s false (by rw [decide_eq_false hz])
        have hmem := (P3.out.2 s).1 (PK.out.mem hz)
        have HC := Lib.hid hmem.2
        clear hz hmem PK P3
        go_wp2_with (first
            | go_skip
            | ((with_reducible refine isLoad ?_); refine ldA H ?_ (hT := by first | exact rWld | exact rStp) (hm := by (repeat (first | exact List.Mem.head _ | refine List.Mem.tail _ ?_ | refine List.mem_append_right _ ?_ | assumption))))
            | ((with_reducible refine isStore ?_); refine stA H ?_ (hT := by first | exact rWld | exact rStp) (hu := by (repeat (first | apply Upd.head | apply Upd.tail | apply Upd.appA | assumption))); clear H; intro _ H)
            | ((with_reducible refine isAlloc ?_); refine alA H ?_ (hz := zStp); clear H; intro b10 _ H)
            | ((with_reducible refine isAlloc ?_); refine alA H ?_ (hz := zWld); clear H; intro b11 _ H))
        go_at_call 21
        refine Calls.mono (Do_E H.out (fun z hz => .tail _ (List.mem_append_right _ (.tail _ (.tail _ (List.mem_append_right _ (HEY.out z hz)))))) WY.out VY.out b1 b3 s HC.out) ?_
        rintro _ _ ⟨k1, k2, k3, f1, f2, f3, E', rfl, hW, h4⟩
        replace H := Lib.hid h4
        have WY' := Lib.hid hW
        clear h4 hW hq
        go_wp2_with (first
            | go_skip
            | ((with_reducible refine isLoad ?_); refine ldA H ?_ (hT := by first | exact rWld | exact rStp) (hm := by (repeat (first | exact List.Mem.head _ | refine List.Mem.tail _ ?_ | refine List.mem_append_right _ ?_ | assumption))))
            | ((with_reducible refine isStore ?_); refine stA H ?_ (hT := by first | exact rWld | exact rStp) (hu := by (repeat (first | apply Upd.head | apply Upd.tail | apply Upd.appA | assumption))); clear H; intro _ H)
            | ((with_reducible refine isAlloc ?_); refine alA H ?_ (hz := zStp); clear H; intro b10 _ H)
            | ((with_reducible refine isAlloc ?_); refine alA H ?_ (hz := zWld); clear H; intro b11 _ H))
        have HL5 : Hid (s.cells.length = 1 * 5) := Lib.hid rfl
        refine wp_region_Y 6 [.c (v2), .c (.agg #[.int .i64 s.kind, .int .i64 s.arm, .int .i64 s.part, .int .i64 s.slot, .int .i64 s.ticks]), .a, .y, .c (.agg #[.int .i64 y.slots, .slice (some ⟨k1, 0, none⟩) n1 f1, .slice (some ⟨k2, 0, none⟩) n1 f2, .slice (some ⟨k3, 0, none⟩) n3 f3]), .y] ((b11, 25, [.int .i64 y.slots, .slice (some ⟨k1, 0, none⟩) n1 f1, .slice (some ⟨k2, 0, none⟩) n1 f2, .slice (some ⟨k3, 0, none⟩) n3 f3]) :: (E' ++ ((b10, 79, [.int .i64 s.kind, .int .i64 s.arm, .int .i64 s.part, .int .i64 s.slot, .int .i64 s.ticks]) :: (rowE (.slice B3 s3.length c3) 79 cur3 ++ ((b5, 25, [.int .i64 0, .slice none 0 0, .slice none 0 0, .slice none 0 0]) :: (b2, 25, [.int .i64 y.slots, .slice (some ⟨h1, 0, none⟩) n1 e1, .slice (some ⟨h2, 0, none⟩) n1 e2, .slice (some ⟨h3, 0, none⟩) n3 e3]) :: (E1 ++ m)))))) H (by (repeat (first | exact List.Sublist.refl _ | refine List.Sublist.cons_cons _ ?_ | refine List.Sublist.append_left ?_ _ | refine List.Sublist.trans ?_ (List.sublist_append_right _ _) | refine List.Sublist.cons _ ?_))) (by kernel_rfl) (by kernel_rfl) (by kernel_rfl) ?_
        simp only [List.take_succ_cons, List.take_zero, List.drop_succ_cons, List.drop_zero]
        refine wpY_c (by rfl) (by (first | exact wanted_none rfl | exact wanted_some rfl rfl)) (by intro W _; first | (go_simp; rfl) | (go_simp; done) | (trace_state; fail)) ?_
        (simp only [Act.put, List.setIfInBounds_toArray, List.set_cons_succ, List.set_cons_zero])
        refine wpY_load (by rfl) (by rfl) (by (first | exact wanted_none rfl | exact wanted_some rfl rfl)) rStp (by rfl) (by (repeat (first | exact List.Mem.head _ | refine List.Mem.tail _ ?_ | refine List.mem_append_right _ ?_ | assumption))) (by first | rfl | ((simp only [List.drop, List.take]); rfl)) (by rfl) ?_
        (simp only [Act.put, List.setIfInBounds_toArray, List.set_cons_succ, List.set_cons_zero])
        refine wpY_V 79 ([.int .i64 s.kind, .int .i64 s.arm, .int .i64 s.part, .int .i64 s.slot, .int .i64 s.ticks]) 1 (by rfl) (by rfl) (by intro W; kernel_rfl) ?_
        intro gz
        (simp only [Act.put, List.setIfInBounds_toArray, List.set_cons_succ, List.set_cons_zero])
        refine wpY_app ((gz, 79, [.int .i64 s.kind, .int .i64 s.arm, .int .i64 s.part, .int .i64 s.slot, .int .i64 s.ticks]) :: ((b11, 25, [.int .i64 y.slots, .slice (some ⟨k1, 0, none⟩) n1 f1, .slice (some ⟨k2, 0, none⟩) n1 f2, .slice (some ⟨k3, 0, none⟩) n3 f3]) :: (E' ++ ((b10, 79, [.int .i64 s.kind, .int .i64 s.arm, .int .i64 s.part, .int .i64 s.slot, .int .i64 s.ticks]) :: (rowE (.slice B3 s3.length c3) 79 cur3 ++ [(b5, 25, [.int .i64 0, .slice none 0 0, .slice none 0 0, .slice none 0 0]), (b2, 25, [.int .i64 y.slots, .slice (some ⟨h1, 0, none⟩) n1 e1, .slice (some ⟨h2, 0, none⟩) n1 e2, .slice (some ⟨h3, 0, none⟩) n3 e3])]))))) (E1 ++ m) (by rfl) (by (first | exact wanted_none rfl | exact wanted_some rfl rfl)) R iStp (by decide) Try.underlying37 (by rfl) (by rfl) (by rfl) (.head _) (by rfl) (by rfl) (by omega) (by unfold maxLen; omega) (by omega) (by simp only [List.cons_append, List.append_assoc, List.nil_append]) (by intro z hz; simp only [List.mem_cons, List.mem_append, List.not_mem_nil, or_false] at hz ⊢; rcases hz with h | h | h | h | h | h | h | h <;> simp [h]) (fun v4 cur4 R4 => ?_)
        (simp only [Act.put, List.setIfInBounds_toArray, List.set_cons_succ, List.set_cons_zero])
        refine wpY_load (by rfl) (by rfl) (by (first | exact wanted_none rfl | exact wanted_some rfl rfl)) rWld (by rfl) (by (repeat (first | exact List.Mem.head _ | refine List.Mem.tail _ ?_ | refine List.mem_append_right _ ?_ | assumption))) (by first | rfl | ((simp only [List.drop, List.take]); rfl)) (by rfl) ?_
        (simp only [Act.put, List.setIfInBounds_toArray, List.set_cons_succ, List.set_cons_zero])
        refine wpY_p (by rfl) (by simp only [List.cons_append, List.append_assoc, List.nil_append]; (repeat (first | exact List.Sublist.refl _ | refine List.Sublist.cons_cons _ ?_ | refine List.Sublist.append_left ?_ _ | refine List.Sublist.trans ?_ (List.sublist_append_right _ _) | refine List.Sublist.cons _ ?_))) (by (first | exact wanted_none rfl | exact wanted_some rfl rfl)) (by intro W; first | (go_simp; rfl) | go_simp) ?_
        (simp only [Act.put, List.setIfInBounds_toArray, List.set_cons_succ, List.set_cons_zero])
        refine wpY_nil ?_
        clear H
        intro _ H
        simp only [List.cons_append, List.append_assoc, List.nil_append] at H
        go_wp2_with (first
            | go_skip
            | ((with_reducible refine isLoad ?_); refine ldA H ?_ (hT := by first | exact rWld | exact rStp) (hm := by (repeat (first | exact List.Mem.head _ | refine List.Mem.tail _ ?_ | refine List.mem_append_right _ ?_ | assumption))))
            | ((with_reducible refine isStore ?_); refine stA H ?_ (hT := by first | exact rWld | exact rStp) (hu := by (repeat (first | apply Upd.head | apply Upd.tail | apply Upd.appA | assumption))); clear H; intro _ H)
            | ((with_reducible refine isAlloc ?_); refine alA H ?_ (hz := zStp); clear H; intro b10 _ H)
            | ((with_reducible refine isAlloc ?_); refine alA H ?_ (hz := zWld); clear H; intro b11 _ H))
        replace H := Lib.hid (Hp.pickW H.out)
        have RL' := Lib.hid (runL_step RL.out HC.out)
        have VY' := Lib.hid (valid_do VY.out HC.out)
        have SL' : Hid ((doS y s).slots = x.slots) := Lib.hid ((doS_slots y s).trans SL.out)
        have RR : Hid (RowV 5 v4 (j + 1) (flat St.cells (ss ++ [s])) cur4) := Lib.hid (by rw [flat_append, show flat St.cells [s] = [.int .i64 s.kind, .int .i64 s.arm, .int .i64 s.part, .int .i64 s.slot, .int .i64 s.ticks] from rfl]; exact R4.out)
        rw [← doS_slots y s] at H
        go_roundw
        case rel => exact ⟨j + 1, v4, ss ++ [s], cur4, doS y s, k1, k2, k3, f1, f2, f3, E', E', rfl, by go_num, by omega, by simp [hsl], RL', VY', SL', WY', Lib.hid (fun z hz => List.mem_append_left _ hz), RR, H⟩
        case measure => simp [intOf]; omega
    · obtain rfl : j = k := by omega
      go_wp2_with (first
          | go_skip
          | ((with_reducible refine isLoad ?_); refine ldA H ?_ (hT := by first | exact rWld | exact rStp) (hm := by (repeat (first | exact List.Mem.head _ | refine List.Mem.tail _ ?_ | refine List.mem_append_right _ ?_ | assumption))))
          | ((with_reducible refine isStore ?_); refine stA H ?_ (hT := by first | exact rWld | exact rStp) (hu := by (repeat (first | apply Upd.head | apply Upd.tail | apply Upd.appA | assumption))); clear H; intro _ H))
      refine wp_region_Y 3 [.c (v2), .c (.agg #[.int .i64 y.slots, .slice (some ⟨h1, 0, none⟩) n1 e1, .slice (some ⟨h2, 0, none⟩) n1 e2, .slice (some ⟨h3, 0, none⟩) n3 e3]), .c (v2)] ((b5, 25, [.int .i64 0, .slice none 0 0, .slice none 0 0, .slice none 0 0]) :: (b2, 25, [.int .i64 y.slots, .slice (some ⟨h1, 0, none⟩) n1 e1, .slice (some ⟨h2, 0, none⟩) n1 e2, .slice (some ⟨h3, 0, none⟩) n3 e3]) :: (rowE v2 79 cur2 ++ (E1 ++ m))) H (by (repeat (first | exact List.Sublist.refl _ | refine List.Sublist.cons_cons _ ?_ | refine List.Sublist.append_left ?_ _ | refine List.Sublist.trans ?_ (List.sublist_append_right _ _) | refine List.Sublist.cons _ ?_))) (by kernel_rfl) (by kernel_rfl) (by kernel_rfl) ?_
      simp only [List.take_succ_cons, List.take_zero, List.drop_succ_cons, List.drop_zero]
      refine wpY_c (by rfl) (by (first | exact wanted_none rfl | exact wanted_some rfl rfl)) (by intro W _; first | (go_simp; rfl) | (go_simp; done) | (trace_state; fail)) ?_
      (simp only [Act.put, List.setIfInBounds_toArray, List.set_cons_succ, List.set_cons_zero])
      refine wpY_load (by rfl) (by rfl) (by (first | exact wanted_none rfl | exact wanted_some rfl rfl)) rWld (by rfl) (by (repeat (first | exact List.Mem.head _ | refine List.Mem.tail _ ?_ | refine List.mem_append_right _ ?_ | assumption))) (by first | rfl | ((simp only [List.drop, List.take]); rfl)) (by rfl) ?_
      (simp only [Act.put, List.setIfInBounds_toArray, List.set_cons_succ, List.set_cons_zero])
      refine wpY_c (by rfl) (by (first | exact wanted_none rfl | exact wanted_some rfl rfl)) (by intro W _; first | (go_simp; rfl) | (go_simp; done) | (trace_state; fail)) ?_
      (simp only [Act.put, List.setIfInBounds_toArray, List.set_cons_succ, List.set_cons_zero])
      refine wpY_nil ?_
      clear H
      intro _ H
      go_wp2_with (first
          | go_skip
          | ((with_reducible refine isLoad ?_); refine ldA H ?_ (hT := by first | exact rWld | exact rStp) (hm := by (repeat (first | exact List.Mem.head _ | refine List.Mem.tail _ ?_ | refine List.mem_append_right _ ?_ | assumption))))
          | ((with_reducible refine isStore ?_); refine stA H ?_ (hT := by first | exact rWld | exact rStp) (hu := by (repeat (first | apply Upd.head | apply Upd.tail | apply Upd.appA | assumption))); clear H; intro _ H))
      exact bodyPost_ret (results_vHv (b := b5) H Try.results7 (by exact rWld) rfl (by (repeat (first | exact List.Mem.head _ | refine List.Mem.tail _ ?_ | refine List.mem_append_right _ ?_ | assumption))) rfl rfl (by rfl)) rfl ⟨_, ss, cur2, y, h1, h2, h3, e1, e2, e3, E1, EY, rfl, RL.out, by omega, VY.out, SL.out, WY.out, by rw [hsl]; exact R.out, HEY.out, H.out.sub (by (repeat (first | exact List.Sublist.refl _ | refine List.Sublist.cons_cons _ ?_ | refine List.Sublist.append_left ?_ _ | refine List.Sublist.trans ?_ (List.sublist_append_right _ _) | refine List.Sublist.cons _ ?_)))⟩
end Go.Proofs.Ytbhbbnmllokglaa

namespace Go.Proofs.Ytbhbbnmllokglaa
open Go.RowKit
set_option linter.unusedVariables false
set_option maxRecDepth 100000

/-- A spot, where there is one. -/
def spotL (z : Int) : List Int := if z = -1 then [] else [20 + z]
theorem ints_app (xs ys : List Int) : (xs ++ ys).map (Value.int .i64) = xs.map (Value.int .i64) ++ ys.map (Value.int .i64) := List.map_append
theorem mid_outA {a : Nat × TypeId × List Value} {R m : Ents} {b : Nat × TypeId × List Value} : ((a :: (R ++ m))).Sublist (a :: (R ++ (b :: m))) := List.Sublist.cons_cons _ (List.Sublist.append (List.Sublist.refl _) (List.Sublist.cons _ (List.Sublist.refl _)))
theorem mid_inA {a b : Nat × TypeId × List Value} {R m : Ents} : (b :: a :: (R ++ m)).Perm (a :: (R ++ (b :: m))) := (List.Perm.swap _ _ _).trans (.cons _ List.perm_middle.symm)
set_option maxHeartbeats 4000000 in
theorem spot_any (w0 w : World) (m : Ents) (bo : Nat) (v : Value) (n : Nat) (xs : List Int) (cur : List Value) (z : Int) (H : Hid (Hp w0 w ((bo, 22, [v]) :: (rowE (v) 3 cur ++ m)))) (R : Hid (RowV 1 v n (xs.map (Value.int .i64)) cur)) (hn : n ≤ 1000) (hz : -1 ≤ z ∧ z ≤ 1000) :
    Calls Try.prog 53 #[.int .i64 z, .pointer (some ⟨bo, 0, none⟩)] w fun e w' => ∃ v' n' cur', e = .returned (.tuple #[]) ∧ RowV 1 v' n' ((xs ++ spotL z).map (Value.int .i64)) cur' ∧ n' ≤ n + 1 ∧ Hp w0 w' ((bo, 22, [v']) :: (rowE (v') 3 cur' ++ m)) := by
  obtain ⟨B, c, rfl, _⟩ := R.out.shape
  have hw : IntKind.i64.wrap (20 + z) = 20 + z := IntWalk.i64_in _ (by omega)
  by_cases h1 : z = -1
  · subst h1
    go_enter Try.func53, Try.ntmps53
    go_wp2_with (first
        | go_skip)
    go_end0
    exact ⟨_, n, cur, rfl, by simpa [spotL] using R.out, by omega, H.out⟩
  · have hne : (z != -1) = true := bne_iff_ne.2 h1
    go_enter Try.func53, Try.ntmps53
    go_wp2_with (first
        | go_skip
        | ((with_reducible refine isLoad ?_); refine ld1A H ?_ (hT := by first | exact kIntA | exact kInts) (hm := by (repeat (first | exact List.Mem.head _ | refine List.Mem.tail _ ?_ | refine List.mem_append_right _ ?_ | assumption))))
        | ((with_reducible refine isStore ?_); refine st1A H ?_ (hT := sInts) (hu := by (repeat (first | apply Upd.head | apply Upd.tail | apply Upd.appA | assumption))); clear H; intro _ H)
        | ((with_reducible refine isSlc ?_); refine bsA 3 [.int .i64 (20 + z)] 1 H ?_; clear H; intro gz _ H)
        | ((with_reducible refine isApp ?_); refine wpList_appH [(gz, 3, _), (bo, 22, _)] m H R (by rfl) iInt1 (by decide) Try.underlying22 (by rfl) (by rfl) (by rfl) (by rfl) (.head _) (by rfl) (by rfl) (by omega) (by simp only [maxLen]; omega) (by omega) ?_; clear H R; intro v3 cur3 _ R H; simp only [List.cons_append, List.nil_append] at H; obtain ⟨B3, c3, rfl, _⟩ := R.out.shape))
    go_end0
    refine ⟨rfl, _, n + 1, _, ?_, by omega, H.out.drop⟩
    unfold spotL
    rw [if_neg h1]
    exact R.out
end Go.Proofs.Ytbhbbnmllokglaa

namespace Go.Proofs.Ytbhbbnmllokglaa
open Go.RowKit
set_option linter.unusedVariables false
set_option maxRecDepth 100000

theorem zInts : (Try.prog.info? 22).bind (·.zero) = some (.slice none 0 0) := by kernel_rfl
/-- The things that a step involves. -/
def touchL (x : AW) (s : St) : List Int := [s.arm] ++ (if 0 ≤ s.part then [10 + s.part] ++ spotL (whereP x s.part) else []) ++ (if 0 ≤ s.slot then spotL s.slot else []) ++ (if s.kind = 0 then spotL (x.spot.getD s.arm.toNat 0) else []) ++ (if s.kind = 2 then [10 + holdsP x s.arm] else [])
theorem whereP_bd {x : AW} (hv : ValidA x) (p : Int) : -1 ≤ whereP x p ∧ whereP x p ≤ 1000 := by
  unfold whereP
  split
  · omega
  · cases h : x.place[p.toNat]? with
    | none => simp
    | some q =>
      have h1 := (hv.place _ _ h).1
      have h2 := hv.s8
      have h3 := hv.p6
      have h4 := lt_of_at h
      simp only
      split
      · omega
      · split <;> omega
theorem holdsP_bd {x : AW} (hv : ValidA x) (a : Int) : -1 ≤ holdsP x a ∧ holdsP x a ≤ 1000 := by
  have := hv.p6
  rcases holdsP_cases x a with h | ⟨p, h, h2, _⟩ <;> omega
/-- What touch answers. -/
def TouchP (x : AW) (s : St) (ys : List Int) : Prop := ∀ t, t ∈ ys ↔ t ∈ touchL x s
theorem form_cases {s : St} (h : formP s) : (s.kind = 0 ∧ 0 ≤ s.part ∧ s.slot = -1) ∨ (s.kind = 0 ∧ s.part = -1 ∧ 0 ≤ s.slot) ∨ (s.kind = 1 ∧ 0 ≤ s.part ∧ s.slot = -1) ∨ (s.kind = 3 ∧ 0 ≤ s.part ∧ s.slot = -1) ∨ (s.kind = 2 ∧ s.part = -1 ∧ 0 ≤ s.slot) ∨ (s.kind = 4 ∧ s.part = -1 ∧ s.slot = -1) := by
  unfold formP at h
  omega
end Go.Proofs.Ytbhbbnmllokglaa

namespace Go.Proofs.Ytbhbbnmllokglaa
open Go.RowKit
set_option linter.unusedVariables false
set_option maxRecDepth 100000

theorem RowV.someI {n : Nat} {v : Value} {xs cur : List Value} (R : RowV 1 v n xs cur) (h : xs ≠ []) : ∃ g c, v = .slice (some ⟨g, 0, none⟩) n c := by
  rcases R.or_ with ⟨_, h2⟩ | ⟨g, c, rfl, _⟩
  · exact absurd (List.eq_nil_of_length_eq_zero (by rw [R.len, h2])) h
  · exact ⟨g, c, rfl⟩
theorem litI (g : Nat) (a : Int) : RowV 1 (.slice (some ⟨g, 0, none⟩) 1 1) 1 ([a].map (Value.int .i64)) [.int .i64 a] := ⟨rfl, .inr ⟨g, 1, rfl, Nat.le_refl _, by unfold maxLen; omega, rfl, rfl⟩⟩
def TouchC (x : AW) (s : St) : Prop := ∀ (g1 g2 g3 n1 n3 d1 d2 d3 : Nat) (w0 w : World) (m E0 : Ents), Hid (Hp w0 w m) → Hid (∀ y ∈ E0, y ∈ m) → Hid (WE E0 x g1 g2 g3 n1 n3 d1 d2 d3) → Hid (ValidA x) → (0 < n1 ∧ n1 ≤ 100) → (0 < n3 ∧ n3 ≤ 100) → Hid (canP x s = 0) →
    Calls Try.prog 41 #[x.vE g1 g2 g3 n1 n3 d1 d2 d3, .agg s.cells.toArray] w fun e w' => ∃ (v : Value) (k : Nat) (ys : List Int) (cur : List Value), e = .returned v ∧ TouchP x s ys ∧ k ≤ 20 ∧ RowV 1 v k (ys.map (Value.int .i64)) cur ∧ Hp w0 w' (rowE v 3 cur ++ m)
set_option maxHeartbeats 4000000 in
theorem touch_0 (x : AW) (a : Nat) (ticks : Int) (p : Int) (hp : 0 ≤ p) : TouchC x ⟨0, a, p, -1, ticks⟩ := by
  intro g1 g2 g3 n1 n3 d1 d2 d3 w0 w m E0 H HE WX hv b1 b3 HC
  obtain ⟨hf, ha, hpp, hqq, _⟩ := canP_ok HC.out
  simp only at ha hpp hqq
  have hl := hv.out.a4
  have hl2 := hv.out.p6
  have hl3 := hv.out.s8
  have R0 : ∀ g, Hid (RowV 1 (.slice (some ⟨g, 0, none⟩) 1 1) 1 ([(a : Int)].map (Value.int .i64)) [.int .i64 a]) := fun g => Lib.hid (litI g a)
  have WB := Lib.hid (whereP_bd hv.out)
  have HB := Lib.hid (holdsP_bd hv.out)
  obtain ⟨zs, hzs⟩ : ∃ z, x.spot[a]? = some z := ⟨_, List.getElem?_eq_getElem (by omega)⟩
  have ZS := Lib.hid hzs
  have hzb := hv.out.spot a zs hzs
  have hzs1 : -1 ≤ zs ∧ zs ≤ 1000 := by omega
  have h3n : a < n3 := by
    have h := (WX.out.r3.cells_ (H.out.hld HE.out)).2.2.1
    simp at h
    omega
  clear hf HC hzs hzb
  have dp : decide ((0 : Int) ≤ p) = true := decide_eq_true hp
  have wp : IntKind.i64.wrap (10 + p) = 10 + p := IntWalk.i64_in _ (by omega)
  show Calls Try.prog 41 #[.agg #[.int .i64 x.slots, .slice (some ⟨g1, 0, none⟩) n1 d1, .slice (some ⟨g2, 0, none⟩) n1 d2, .slice (some ⟨g3, 0, none⟩) n3 d3], .agg #[.int .i64 0, .int .i64 a, .int .i64 p, .int .i64 (-1), .int .i64 ticks]] w _
  go_enter Try.func41, Try.ntmps41
  go_wp2_with (first
      | go_skip
      | ((with_reducible refine isBox ?_); refine bxA (t := 25) H ?_; clear H; intro bw _ H)
      | ((with_reducible refine isBox ?_); refine bxA (t := 79) H ?_; clear H; intro bs _ H)
      | ((with_reducible refine isLoad ?_); refine ld1A H ?_ (hT := by first | exact kIntA | exact kInts) (hm := by (repeat (first | exact List.Mem.head _ | refine List.Mem.tail _ ?_ | refine List.mem_append_right _ ?_ | assumption))))
      | ((with_reducible refine isLoad ?_); refine ldA H ?_ (hT := by first | exact rWld | exact rStp) (hm := by (repeat (first | exact List.Mem.head _ | refine List.Mem.tail _ ?_ | refine List.mem_append_right _ ?_ | assumption))))
      | ((with_reducible refine isSlc ?_); refine bsA (d := 9) 3 [.int .i64 a] 1 H ?_; clear H; intro gz _ H; have R := R0 gz)
      | ((with_reducible refine isSlc ?_); refine bsA (d := 18) 3 [.int .i64 (10 + p)] 1 H ?_; clear H; intro gy _ H)
      | ((with_reducible refine isApp ?_); refine wpList_appH [(gy, 3, _), (bo, 22, _)] ((bs, 79, _) :: (bw, 25, _) :: m) H R (by rfl) iInt1 (by decide) Try.underlying22 (by rfl) (by rfl) (by rfl) (by rfl) (.head _) (by rfl) (by rfl) (by omega) (by simp only [maxLen]; omega) (by omega) ?_; clear H R; intro v3 cur3 _ R H; simp only [List.cons_append, List.nil_append] at H; obtain ⟨B3, c3, rfl, _⟩ := R.out.shape)
      | ((with_reducible refine isAlloc ?_); refine alA H ?_ (hz := zInts); clear H; intro bo _ H)
      | ((with_reducible refine isStore ?_); first | (refine st1A (v := .slice B3 (1 + 1) c3) H ?_ (hT := sInts) (hu := by (repeat (first | apply Upd.head | apply Upd.tail | apply Upd.appA | assumption))); clear H; intro _ H) | (refine st1A (v := .slice (some ⟨gz, 0, none⟩) 1 1) H ?_ (hT := sInts) (hu := by (repeat (first | apply Upd.head | apply Upd.tail | apply Upd.appA | assumption))); clear H; intro _ H)))
  replace H := Lib.hid (H.out.perm mid_inA)
  rw [show [(a : Int)].map (Value.int .i64) ++ [Value.int .i64 (10 + p)] = ([(a : Int)] ++ [10 + p]).map (Value.int .i64) from rfl] at R
  go_at_call 52
  obtain ⟨z, hz⟩ : ∃ z, whereP x p = z := ⟨_, rfl⟩
  have hzb := WB.out p
  rw [hz] at hzb
  have HZ := Lib.hid hz
  clear hz
  refine (Where_any x _ _ _ n1 n1 n3 d1 d2 d3 _ (WX.out.rw4 (H.out.hld (fun z hz => by have := HE.out z hz; simp [this])) b1.2 b3.2) p z HZ).mono ?_
  rintro _ _ ⟨rfl, hb⟩
  replace H := Lib.hid (H.out.go hb)
  clear hb
  go_wp2_with (first
      | go_skip
      | ((with_reducible refine isLoad ?_); refine ld1A H ?_ (hT := by first | exact kIntA | exact kInts) (hm := by (repeat (first | exact List.Mem.head _ | refine List.Mem.tail _ ?_ | refine List.mem_append_right _ ?_ | assumption))))
      | ((with_reducible refine isLoad ?_); refine ldA H ?_ (hT := by first | exact rWld | exact rStp) (hm := by (repeat (first | exact List.Mem.head _ | refine List.Mem.tail _ ?_ | refine List.mem_append_right _ ?_ | assumption)))))
  go_at_call 53
  refine Calls.mono (spot_any w0 _ _ bo _ _ _ _ z H R (by omega) hzb) ?_
  clear H R
  rintro _ _ ⟨v2, k2, cur2, rfl, hR, hk2, h2⟩
  obtain ⟨B2, c2, rfl, _⟩ := hR.shape
  have R := Lib.hid hR
  have H := Lib.hid h2
  clear hR h2
  have DS := (WX.out.r3.cells_ (H.out.hld (fun z hz => by have := HE.out z hz; simp [this]))).2.2.2 a (.int .i64 zs) (by rw [List.getElem?_map, ZS.out]; rfl)
  go_wp2_with (first
      | go_skip
      | ((with_reducible refine isLoad ?_); refine ld1A H ?_ (hT := by first | exact kIntA | exact kInts) (hm := by (repeat (first | exact List.Mem.head _ | refine List.Mem.tail _ ?_ | refine List.mem_append_right _ ?_ | assumption))))
      | ((with_reducible refine isLoad ?_); refine ldA H ?_ (hT := by first | exact rWld | exact rStp) (hm := by (repeat (first | exact List.Mem.head _ | refine List.Mem.tail _ ?_ | refine List.mem_append_right _ ?_ | assumption)))))
  go_at_call 53
  refine Calls.mono (spot_any w0 _ _ bo _ _ _ _ zs H R (by omega) hzs1) ?_
  clear H R
  rintro _ _ ⟨v2, k2, cur2, rfl, hR, hk2, h2⟩
  obtain ⟨B2, c2, rfl, _⟩ := hR.shape
  have R := Lib.hid hR
  have H := Lib.hid h2
  clear hR h2
  clear DS
  go_wp2_with (first
      | go_skip
      | ((with_reducible refine isLoad ?_); refine ld1A H ?_ (hT := by first | exact kIntA | exact kInts) (hm := by (repeat (first | exact List.Mem.head _ | refine List.Mem.tail _ ?_ | refine List.mem_append_right _ ?_ | assumption))))
      | ((with_reducible refine isLoad ?_); refine ldA H ?_ (hT := by first | exact rWld | exact rStp) (hm := by (repeat (first | exact List.Mem.head _ | refine List.Mem.tail _ ?_ | refine List.mem_append_right _ ?_ | assumption)))))
  obtain ⟨g9, c9, e9⟩ := R.out.someI (by simp)
  cases e9
  go_at_call 54
  refine Calls.mono (Sort_E (X := [(bo, 22, [_])]) R.out H.out (by omega)) ?_
  rintro _ _ ⟨rfl, ys, cur4, hm1, hl1, hR, h2⟩
  clear R H
  have R := Lib.hid hR
  have H := Lib.hid h2
  simp only [List.cons_append, List.nil_append] at H
  clear hR h2
  go_wp2_with (first
      | go_skip
      | ((with_reducible refine isLoad ?_); refine ld1A H ?_ (hT := by first | exact kIntA | exact kInts) (hm := by (repeat (first | exact List.Mem.head _ | refine List.Mem.tail _ ?_ | refine List.mem_append_right _ ?_ | assumption)))))
  go_at_call 55
  refine Calls.mono (Compact_E (X := [(bo, 22, [_])]) R.out H.out (by omega)) ?_
  rintro _ _ ⟨k9, ys9, cur5, rfl, hm2, hk9, hR, h2⟩
  clear R H
  have R := Lib.hid hR
  have H := Lib.hid h2
  simp only [List.cons_append, List.nil_append] at H
  clear hR h2
  go_wp2_with (first
      | go_skip
      | ((with_reducible refine isLoad ?_); refine ld1A H ?_ (hT := by first | exact kIntA | exact kInts) (hm := by (repeat (first | exact List.Mem.head _ | refine List.Mem.tail _ ?_ | refine List.mem_append_right _ ?_ | assumption)))))
  go_ret
  refine ⟨_, k9, ys9, cur5, rfl, fun t => ?_, by omega, R.out, H.out.sub (by (repeat (first | exact List.Sublist.refl _ | refine List.Sublist.cons_cons _ ?_ | refine List.Sublist.append_left ?_ _ | refine List.Sublist.trans ?_ (List.sublist_append_right _ _) | refine List.Sublist.cons _ ?_)))⟩
  rw [hm2, hm1]
  unfold touchL
  simp [hp, HZ.out, ZS.out]
set_option maxHeartbeats 4000000 in
theorem touch_1 (x : AW) (a : Nat) (ticks : Int) (q : Int) (hq : 0 ≤ q) : TouchC x ⟨0, a, -1, q, ticks⟩ := by
  intro g1 g2 g3 n1 n3 d1 d2 d3 w0 w m E0 H HE WX hv b1 b3 HC
  obtain ⟨hf, ha, hpp, hqq, _⟩ := canP_ok HC.out
  simp only at ha hpp hqq
  have hl := hv.out.a4
  have hl2 := hv.out.p6
  have hl3 := hv.out.s8
  have R0 : ∀ g, Hid (RowV 1 (.slice (some ⟨g, 0, none⟩) 1 1) 1 ([(a : Int)].map (Value.int .i64)) [.int .i64 a]) := fun g => Lib.hid (litI g a)
  have WB := Lib.hid (whereP_bd hv.out)
  have HB := Lib.hid (holdsP_bd hv.out)
  obtain ⟨zs, hzs⟩ : ∃ z, x.spot[a]? = some z := ⟨_, List.getElem?_eq_getElem (by omega)⟩
  have ZS := Lib.hid hzs
  have hzb := hv.out.spot a zs hzs
  have hzs1 : -1 ≤ zs ∧ zs ≤ 1000 := by omega
  have h3n : a < n3 := by
    have h := (WX.out.r3.cells_ (H.out.hld HE.out)).2.2.1
    simp at h
    omega
  clear hf HC hzs hzb
  have dq : decide ((0 : Int) ≤ q) = true := decide_eq_true hq
  show Calls Try.prog 41 #[.agg #[.int .i64 x.slots, .slice (some ⟨g1, 0, none⟩) n1 d1, .slice (some ⟨g2, 0, none⟩) n1 d2, .slice (some ⟨g3, 0, none⟩) n3 d3], .agg #[.int .i64 0, .int .i64 a, .int .i64 (-1), .int .i64 q, .int .i64 ticks]] w _
  go_enter Try.func41, Try.ntmps41
  go_wp2_with (first
      | go_skip
      | ((with_reducible refine isBox ?_); refine bxA (t := 25) H ?_; clear H; intro bw _ H)
      | ((with_reducible refine isBox ?_); refine bxA (t := 79) H ?_; clear H; intro bs _ H)
      | ((with_reducible refine isLoad ?_); refine ld1A H ?_ (hT := by first | exact kIntA | exact kInts) (hm := by (repeat (first | exact List.Mem.head _ | refine List.Mem.tail _ ?_ | refine List.mem_append_right _ ?_ | assumption))))
      | ((with_reducible refine isLoad ?_); refine ldA H ?_ (hT := by first | exact rWld | exact rStp) (hm := by (repeat (first | exact List.Mem.head _ | refine List.Mem.tail _ ?_ | refine List.mem_append_right _ ?_ | assumption))))
      | ((with_reducible refine isSlc ?_); refine bsA (d := 9) 3 [.int .i64 a] 1 H ?_; clear H; intro gz _ H; have R := R0 gz)
      | ((with_reducible refine isAlloc ?_); refine alA H ?_ (hz := zInts); clear H; intro bo _ H)
      | ((with_reducible refine isStore ?_); first | (refine st1A (v := .slice B3 (1 + 1) c3) H ?_ (hT := sInts) (hu := by (repeat (first | apply Upd.head | apply Upd.tail | apply Upd.appA | assumption))); clear H; intro _ H) | (refine st1A (v := .slice (some ⟨gz, 0, none⟩) 1 1) H ?_ (hT := sInts) (hu := by (repeat (first | apply Upd.head | apply Upd.tail | apply Upd.appA | assumption))); clear H; intro _ H)))
  go_at_call 53
  refine Calls.mono (spot_any w0 _ _ bo _ _ _ _ q H R (by omega) (by omega)) ?_
  clear H R
  rintro _ _ ⟨v2, k2, cur2, rfl, hR, hk2, h2⟩
  obtain ⟨B2, c2, rfl, _⟩ := hR.shape
  have R := Lib.hid hR
  have H := Lib.hid h2
  clear hR h2
  have DS := (WX.out.r3.cells_ (H.out.hld (fun z hz => by have := HE.out z hz; simp [this]))).2.2.2 a (.int .i64 zs) (by rw [List.getElem?_map, ZS.out]; rfl)
  go_wp2_with (first
      | go_skip
      | ((with_reducible refine isLoad ?_); refine ld1A H ?_ (hT := by first | exact kIntA | exact kInts) (hm := by (repeat (first | exact List.Mem.head _ | refine List.Mem.tail _ ?_ | refine List.mem_append_right _ ?_ | assumption))))
      | ((with_reducible refine isLoad ?_); refine ldA H ?_ (hT := by first | exact rWld | exact rStp) (hm := by (repeat (first | exact List.Mem.head _ | refine List.Mem.tail _ ?_ | refine List.mem_append_right _ ?_ | assumption)))))
  go_at_call 53
  refine Calls.mono (spot_any w0 _ _ bo _ _ _ _ zs H R (by omega) hzs1) ?_
  clear H R
  rintro _ _ ⟨v2, k2, cur2, rfl, hR, hk2, h2⟩
  obtain ⟨B2, c2, rfl, _⟩ := hR.shape
  have R := Lib.hid hR
  have H := Lib.hid h2
  clear hR h2
  clear DS
  go_wp2_with (first
      | go_skip
      | ((with_reducible refine isLoad ?_); refine ld1A H ?_ (hT := by first | exact kIntA | exact kInts) (hm := by (repeat (first | exact List.Mem.head _ | refine List.Mem.tail _ ?_ | refine List.mem_append_right _ ?_ | assumption))))
      | ((with_reducible refine isLoad ?_); refine ldA H ?_ (hT := by first | exact rWld | exact rStp) (hm := by (repeat (first | exact List.Mem.head _ | refine List.Mem.tail _ ?_ | refine List.mem_append_right _ ?_ | assumption)))))
  obtain ⟨g9, c9, e9⟩ := R.out.someI (by simp)
  cases e9
  go_at_call 54
  refine Calls.mono (Sort_E (X := [(bo, 22, [_])]) R.out H.out (by omega)) ?_
  rintro _ _ ⟨rfl, ys, cur4, hm1, hl1, hR, h2⟩
  clear R H
  have R := Lib.hid hR
  have H := Lib.hid h2
  simp only [List.cons_append, List.nil_append] at H
  clear hR h2
  go_wp2_with (first
      | go_skip
      | ((with_reducible refine isLoad ?_); refine ld1A H ?_ (hT := by first | exact kIntA | exact kInts) (hm := by (repeat (first | exact List.Mem.head _ | refine List.Mem.tail _ ?_ | refine List.mem_append_right _ ?_ | assumption)))))
  go_at_call 55
  refine Calls.mono (Compact_E (X := [(bo, 22, [_])]) R.out H.out (by omega)) ?_
  rintro _ _ ⟨k9, ys9, cur5, rfl, hm2, hk9, hR, h2⟩
  clear R H
  have R := Lib.hid hR
  have H := Lib.hid h2
  simp only [List.cons_append, List.nil_append] at H
  clear hR h2
  go_wp2_with (first
      | go_skip
      | ((with_reducible refine isLoad ?_); refine ld1A H ?_ (hT := by first | exact kIntA | exact kInts) (hm := by (repeat (first | exact List.Mem.head _ | refine List.Mem.tail _ ?_ | refine List.mem_append_right _ ?_ | assumption)))))
  go_ret
  refine ⟨_, k9, ys9, cur5, rfl, fun t => ?_, by omega, R.out, H.out.sub (by (repeat (first | exact List.Sublist.refl _ | refine List.Sublist.cons_cons _ ?_ | refine List.Sublist.append_left ?_ _ | refine List.Sublist.trans ?_ (List.sublist_append_right _ _) | refine List.Sublist.cons _ ?_)))⟩
  rw [hm2, hm1]
  unfold touchL
  simp [hq, ZS.out]
set_option maxHeartbeats 4000000 in
theorem touch_2 (x : AW) (a : Nat) (ticks : Int) (p : Int) (hp : 0 ≤ p) : TouchC x ⟨1, a, p, -1, ticks⟩ := by
  intro g1 g2 g3 n1 n3 d1 d2 d3 w0 w m E0 H HE WX hv b1 b3 HC
  obtain ⟨hf, ha, hpp, hqq, _⟩ := canP_ok HC.out
  simp only at ha hpp hqq
  have hl := hv.out.a4
  have hl2 := hv.out.p6
  have hl3 := hv.out.s8
  have R0 : ∀ g, Hid (RowV 1 (.slice (some ⟨g, 0, none⟩) 1 1) 1 ([(a : Int)].map (Value.int .i64)) [.int .i64 a]) := fun g => Lib.hid (litI g a)
  have WB := Lib.hid (whereP_bd hv.out)
  have HB := Lib.hid (holdsP_bd hv.out)
  obtain ⟨zs, hzs⟩ : ∃ z, x.spot[a]? = some z := ⟨_, List.getElem?_eq_getElem (by omega)⟩
  have ZS := Lib.hid hzs
  have hzb := hv.out.spot a zs hzs
  have hzs1 : -1 ≤ zs ∧ zs ≤ 1000 := by omega
  have h3n : a < n3 := by
    have h := (WX.out.r3.cells_ (H.out.hld HE.out)).2.2.1
    simp at h
    omega
  clear hf HC hzs hzb
  have dp : decide ((0 : Int) ≤ p) = true := decide_eq_true hp
  have wp : IntKind.i64.wrap (10 + p) = 10 + p := IntWalk.i64_in _ (by omega)
  show Calls Try.prog 41 #[.agg #[.int .i64 x.slots, .slice (some ⟨g1, 0, none⟩) n1 d1, .slice (some ⟨g2, 0, none⟩) n1 d2, .slice (some ⟨g3, 0, none⟩) n3 d3], .agg #[.int .i64 1, .int .i64 a, .int .i64 p, .int .i64 (-1), .int .i64 ticks]] w _
  go_enter Try.func41, Try.ntmps41
  go_wp2_with (first
      | go_skip
      | ((with_reducible refine isBox ?_); refine bxA (t := 25) H ?_; clear H; intro bw _ H)
      | ((with_reducible refine isBox ?_); refine bxA (t := 79) H ?_; clear H; intro bs _ H)
      | ((with_reducible refine isLoad ?_); refine ld1A H ?_ (hT := by first | exact kIntA | exact kInts) (hm := by (repeat (first | exact List.Mem.head _ | refine List.Mem.tail _ ?_ | refine List.mem_append_right _ ?_ | assumption))))
      | ((with_reducible refine isLoad ?_); refine ldA H ?_ (hT := by first | exact rWld | exact rStp) (hm := by (repeat (first | exact List.Mem.head _ | refine List.Mem.tail _ ?_ | refine List.mem_append_right _ ?_ | assumption))))
      | ((with_reducible refine isSlc ?_); refine bsA (d := 9) 3 [.int .i64 a] 1 H ?_; clear H; intro gz _ H; have R := R0 gz)
      | ((with_reducible refine isSlc ?_); refine bsA (d := 18) 3 [.int .i64 (10 + p)] 1 H ?_; clear H; intro gy _ H)
      | ((with_reducible refine isApp ?_); refine wpList_appH [(gy, 3, _), (bo, 22, _)] ((bs, 79, _) :: (bw, 25, _) :: m) H R (by rfl) iInt1 (by decide) Try.underlying22 (by rfl) (by rfl) (by rfl) (by rfl) (.head _) (by rfl) (by rfl) (by omega) (by simp only [maxLen]; omega) (by omega) ?_; clear H R; intro v3 cur3 _ R H; simp only [List.cons_append, List.nil_append] at H; obtain ⟨B3, c3, rfl, _⟩ := R.out.shape)
      | ((with_reducible refine isAlloc ?_); refine alA H ?_ (hz := zInts); clear H; intro bo _ H)
      | ((with_reducible refine isStore ?_); first | (refine st1A (v := .slice B3 (1 + 1) c3) H ?_ (hT := sInts) (hu := by (repeat (first | apply Upd.head | apply Upd.tail | apply Upd.appA | assumption))); clear H; intro _ H) | (refine st1A (v := .slice (some ⟨gz, 0, none⟩) 1 1) H ?_ (hT := sInts) (hu := by (repeat (first | apply Upd.head | apply Upd.tail | apply Upd.appA | assumption))); clear H; intro _ H)))
  replace H := Lib.hid (H.out.perm mid_inA)
  rw [show [(a : Int)].map (Value.int .i64) ++ [Value.int .i64 (10 + p)] = ([(a : Int)] ++ [10 + p]).map (Value.int .i64) from rfl] at R
  go_at_call 52
  obtain ⟨z, hz⟩ : ∃ z, whereP x p = z := ⟨_, rfl⟩
  have hzb := WB.out p
  rw [hz] at hzb
  have HZ := Lib.hid hz
  clear hz
  refine (Where_any x _ _ _ n1 n1 n3 d1 d2 d3 _ (WX.out.rw4 (H.out.hld (fun z hz => by have := HE.out z hz; simp [this])) b1.2 b3.2) p z HZ).mono ?_
  rintro _ _ ⟨rfl, hb⟩
  replace H := Lib.hid (H.out.go hb)
  clear hb
  go_wp2_with (first
      | go_skip
      | ((with_reducible refine isLoad ?_); refine ld1A H ?_ (hT := by first | exact kIntA | exact kInts) (hm := by (repeat (first | exact List.Mem.head _ | refine List.Mem.tail _ ?_ | refine List.mem_append_right _ ?_ | assumption))))
      | ((with_reducible refine isLoad ?_); refine ldA H ?_ (hT := by first | exact rWld | exact rStp) (hm := by (repeat (first | exact List.Mem.head _ | refine List.Mem.tail _ ?_ | refine List.mem_append_right _ ?_ | assumption)))))
  go_at_call 53
  refine Calls.mono (spot_any w0 _ _ bo _ _ _ _ z H R (by omega) hzb) ?_
  clear H R
  rintro _ _ ⟨v2, k2, cur2, rfl, hR, hk2, h2⟩
  obtain ⟨B2, c2, rfl, _⟩ := hR.shape
  have R := Lib.hid hR
  have H := Lib.hid h2
  clear hR h2
  go_wp2_with (first
      | go_skip
      | ((with_reducible refine isLoad ?_); refine ld1A H ?_ (hT := by first | exact kIntA | exact kInts) (hm := by (repeat (first | exact List.Mem.head _ | refine List.Mem.tail _ ?_ | refine List.mem_append_right _ ?_ | assumption))))
      | ((with_reducible refine isLoad ?_); refine ldA H ?_ (hT := by first | exact rWld | exact rStp) (hm := by (repeat (first | exact List.Mem.head _ | refine List.Mem.tail _ ?_ | refine List.mem_append_right _ ?_ | assumption)))))
  obtain ⟨g9, c9, e9⟩ := R.out.someI (by simp)
  cases e9
  go_at_call 54
  refine Calls.mono (Sort_E (X := [(bo, 22, [_])]) R.out H.out (by omega)) ?_
  rintro _ _ ⟨rfl, ys, cur4, hm1, hl1, hR, h2⟩
  clear R H
  have R := Lib.hid hR
  have H := Lib.hid h2
  simp only [List.cons_append, List.nil_append] at H
  clear hR h2
  go_wp2_with (first
      | go_skip
      | ((with_reducible refine isLoad ?_); refine ld1A H ?_ (hT := by first | exact kIntA | exact kInts) (hm := by (repeat (first | exact List.Mem.head _ | refine List.Mem.tail _ ?_ | refine List.mem_append_right _ ?_ | assumption)))))
  go_at_call 55
  refine Calls.mono (Compact_E (X := [(bo, 22, [_])]) R.out H.out (by omega)) ?_
  rintro _ _ ⟨k9, ys9, cur5, rfl, hm2, hk9, hR, h2⟩
  clear R H
  have R := Lib.hid hR
  have H := Lib.hid h2
  simp only [List.cons_append, List.nil_append] at H
  clear hR h2
  go_wp2_with (first
      | go_skip
      | ((with_reducible refine isLoad ?_); refine ld1A H ?_ (hT := by first | exact kIntA | exact kInts) (hm := by (repeat (first | exact List.Mem.head _ | refine List.Mem.tail _ ?_ | refine List.mem_append_right _ ?_ | assumption)))))
  go_ret
  refine ⟨_, k9, ys9, cur5, rfl, fun t => ?_, by omega, R.out, H.out.sub (by (repeat (first | exact List.Sublist.refl _ | refine List.Sublist.cons_cons _ ?_ | refine List.Sublist.append_left ?_ _ | refine List.Sublist.trans ?_ (List.sublist_append_right _ _) | refine List.Sublist.cons _ ?_)))⟩
  rw [hm2, hm1]
  unfold touchL
  simp [hp, HZ.out]
set_option maxHeartbeats 4000000 in
theorem touch_3 (x : AW) (a : Nat) (ticks : Int) (p : Int) (hp : 0 ≤ p) : TouchC x ⟨3, a, p, -1, ticks⟩ := by
  intro g1 g2 g3 n1 n3 d1 d2 d3 w0 w m E0 H HE WX hv b1 b3 HC
  obtain ⟨hf, ha, hpp, hqq, _⟩ := canP_ok HC.out
  simp only at ha hpp hqq
  have hl := hv.out.a4
  have hl2 := hv.out.p6
  have hl3 := hv.out.s8
  have R0 : ∀ g, Hid (RowV 1 (.slice (some ⟨g, 0, none⟩) 1 1) 1 ([(a : Int)].map (Value.int .i64)) [.int .i64 a]) := fun g => Lib.hid (litI g a)
  have WB := Lib.hid (whereP_bd hv.out)
  have HB := Lib.hid (holdsP_bd hv.out)
  obtain ⟨zs, hzs⟩ : ∃ z, x.spot[a]? = some z := ⟨_, List.getElem?_eq_getElem (by omega)⟩
  have ZS := Lib.hid hzs
  have hzb := hv.out.spot a zs hzs
  have hzs1 : -1 ≤ zs ∧ zs ≤ 1000 := by omega
  have h3n : a < n3 := by
    have h := (WX.out.r3.cells_ (H.out.hld HE.out)).2.2.1
    simp at h
    omega
  clear hf HC hzs hzb
  have dp : decide ((0 : Int) ≤ p) = true := decide_eq_true hp
  have wp : IntKind.i64.wrap (10 + p) = 10 + p := IntWalk.i64_in _ (by omega)
  show Calls Try.prog 41 #[.agg #[.int .i64 x.slots, .slice (some ⟨g1, 0, none⟩) n1 d1, .slice (some ⟨g2, 0, none⟩) n1 d2, .slice (some ⟨g3, 0, none⟩) n3 d3], .agg #[.int .i64 3, .int .i64 a, .int .i64 p, .int .i64 (-1), .int .i64 ticks]] w _
  go_enter Try.func41, Try.ntmps41
  go_wp2_with (first
      | go_skip
      | ((with_reducible refine isBox ?_); refine bxA (t := 25) H ?_; clear H; intro bw _ H)
      | ((with_reducible refine isBox ?_); refine bxA (t := 79) H ?_; clear H; intro bs _ H)
      | ((with_reducible refine isLoad ?_); refine ld1A H ?_ (hT := by first | exact kIntA | exact kInts) (hm := by (repeat (first | exact List.Mem.head _ | refine List.Mem.tail _ ?_ | refine List.mem_append_right _ ?_ | assumption))))
      | ((with_reducible refine isLoad ?_); refine ldA H ?_ (hT := by first | exact rWld | exact rStp) (hm := by (repeat (first | exact List.Mem.head _ | refine List.Mem.tail _ ?_ | refine List.mem_append_right _ ?_ | assumption))))
      | ((with_reducible refine isSlc ?_); refine bsA (d := 9) 3 [.int .i64 a] 1 H ?_; clear H; intro gz _ H; have R := R0 gz)
      | ((with_reducible refine isSlc ?_); refine bsA (d := 18) 3 [.int .i64 (10 + p)] 1 H ?_; clear H; intro gy _ H)
      | ((with_reducible refine isApp ?_); refine wpList_appH [(gy, 3, _), (bo, 22, _)] ((bs, 79, _) :: (bw, 25, _) :: m) H R (by rfl) iInt1 (by decide) Try.underlying22 (by rfl) (by rfl) (by rfl) (by rfl) (.head _) (by rfl) (by rfl) (by omega) (by simp only [maxLen]; omega) (by omega) ?_; clear H R; intro v3 cur3 _ R H; simp only [List.cons_append, List.nil_append] at H; obtain ⟨B3, c3, rfl, _⟩ := R.out.shape)
      | ((with_reducible refine isAlloc ?_); refine alA H ?_ (hz := zInts); clear H; intro bo _ H)
      | ((with_reducible refine isStore ?_); first | (refine st1A (v := .slice B3 (1 + 1) c3) H ?_ (hT := sInts) (hu := by (repeat (first | apply Upd.head | apply Upd.tail | apply Upd.appA | assumption))); clear H; intro _ H) | (refine st1A (v := .slice (some ⟨gz, 0, none⟩) 1 1) H ?_ (hT := sInts) (hu := by (repeat (first | apply Upd.head | apply Upd.tail | apply Upd.appA | assumption))); clear H; intro _ H)))
  replace H := Lib.hid (H.out.perm mid_inA)
  rw [show [(a : Int)].map (Value.int .i64) ++ [Value.int .i64 (10 + p)] = ([(a : Int)] ++ [10 + p]).map (Value.int .i64) from rfl] at R
  go_at_call 52
  obtain ⟨z, hz⟩ : ∃ z, whereP x p = z := ⟨_, rfl⟩
  have hzb := WB.out p
  rw [hz] at hzb
  have HZ := Lib.hid hz
  clear hz
  refine (Where_any x _ _ _ n1 n1 n3 d1 d2 d3 _ (WX.out.rw4 (H.out.hld (fun z hz => by have := HE.out z hz; simp [this])) b1.2 b3.2) p z HZ).mono ?_
  rintro _ _ ⟨rfl, hb⟩
  replace H := Lib.hid (H.out.go hb)
  clear hb
  go_wp2_with (first
      | go_skip
      | ((with_reducible refine isLoad ?_); refine ld1A H ?_ (hT := by first | exact kIntA | exact kInts) (hm := by (repeat (first | exact List.Mem.head _ | refine List.Mem.tail _ ?_ | refine List.mem_append_right _ ?_ | assumption))))
      | ((with_reducible refine isLoad ?_); refine ldA H ?_ (hT := by first | exact rWld | exact rStp) (hm := by (repeat (first | exact List.Mem.head _ | refine List.Mem.tail _ ?_ | refine List.mem_append_right _ ?_ | assumption)))))
  go_at_call 53
  refine Calls.mono (spot_any w0 _ _ bo _ _ _ _ z H R (by omega) hzb) ?_
  clear H R
  rintro _ _ ⟨v2, k2, cur2, rfl, hR, hk2, h2⟩
  obtain ⟨B2, c2, rfl, _⟩ := hR.shape
  have R := Lib.hid hR
  have H := Lib.hid h2
  clear hR h2
  go_wp2_with (first
      | go_skip
      | ((with_reducible refine isLoad ?_); refine ld1A H ?_ (hT := by first | exact kIntA | exact kInts) (hm := by (repeat (first | exact List.Mem.head _ | refine List.Mem.tail _ ?_ | refine List.mem_append_right _ ?_ | assumption))))
      | ((with_reducible refine isLoad ?_); refine ldA H ?_ (hT := by first | exact rWld | exact rStp) (hm := by (repeat (first | exact List.Mem.head _ | refine List.Mem.tail _ ?_ | refine List.mem_append_right _ ?_ | assumption)))))
  obtain ⟨g9, c9, e9⟩ := R.out.someI (by simp)
  cases e9
  go_at_call 54
  refine Calls.mono (Sort_E (X := [(bo, 22, [_])]) R.out H.out (by omega)) ?_
  rintro _ _ ⟨rfl, ys, cur4, hm1, hl1, hR, h2⟩
  clear R H
  have R := Lib.hid hR
  have H := Lib.hid h2
  simp only [List.cons_append, List.nil_append] at H
  clear hR h2
  go_wp2_with (first
      | go_skip
      | ((with_reducible refine isLoad ?_); refine ld1A H ?_ (hT := by first | exact kIntA | exact kInts) (hm := by (repeat (first | exact List.Mem.head _ | refine List.Mem.tail _ ?_ | refine List.mem_append_right _ ?_ | assumption)))))
  go_at_call 55
  refine Calls.mono (Compact_E (X := [(bo, 22, [_])]) R.out H.out (by omega)) ?_
  rintro _ _ ⟨k9, ys9, cur5, rfl, hm2, hk9, hR, h2⟩
  clear R H
  have R := Lib.hid hR
  have H := Lib.hid h2
  simp only [List.cons_append, List.nil_append] at H
  clear hR h2
  go_wp2_with (first
      | go_skip
      | ((with_reducible refine isLoad ?_); refine ld1A H ?_ (hT := by first | exact kIntA | exact kInts) (hm := by (repeat (first | exact List.Mem.head _ | refine List.Mem.tail _ ?_ | refine List.mem_append_right _ ?_ | assumption)))))
  go_ret
  refine ⟨_, k9, ys9, cur5, rfl, fun t => ?_, by omega, R.out, H.out.sub (by (repeat (first | exact List.Sublist.refl _ | refine List.Sublist.cons_cons _ ?_ | refine List.Sublist.append_left ?_ _ | refine List.Sublist.trans ?_ (List.sublist_append_right _ _) | refine List.Sublist.cons _ ?_)))⟩
  rw [hm2, hm1]
  unfold touchL
  simp [hp, HZ.out]
set_option maxHeartbeats 4000000 in
theorem touch_4 (x : AW) (a : Nat) (ticks : Int) (q : Int) (hq : 0 ≤ q) : TouchC x ⟨2, a, -1, q, ticks⟩ := by
  intro g1 g2 g3 n1 n3 d1 d2 d3 w0 w m E0 H HE WX hv b1 b3 HC
  obtain ⟨hf, ha, hpp, hqq, _⟩ := canP_ok HC.out
  simp only at ha hpp hqq
  have hl := hv.out.a4
  have hl2 := hv.out.p6
  have hl3 := hv.out.s8
  have R0 : ∀ g, Hid (RowV 1 (.slice (some ⟨g, 0, none⟩) 1 1) 1 ([(a : Int)].map (Value.int .i64)) [.int .i64 a]) := fun g => Lib.hid (litI g a)
  have WB := Lib.hid (whereP_bd hv.out)
  have HB := Lib.hid (holdsP_bd hv.out)
  obtain ⟨zs, hzs⟩ : ∃ z, x.spot[a]? = some z := ⟨_, List.getElem?_eq_getElem (by omega)⟩
  have ZS := Lib.hid hzs
  have hzb := hv.out.spot a zs hzs
  have hzs1 : -1 ≤ zs ∧ zs ≤ 1000 := by omega
  have h3n : a < n3 := by
    have h := (WX.out.r3.cells_ (H.out.hld HE.out)).2.2.1
    simp at h
    omega
  clear hf HC hzs hzb
  have dq : decide ((0 : Int) ≤ q) = true := decide_eq_true hq
  show Calls Try.prog 41 #[.agg #[.int .i64 x.slots, .slice (some ⟨g1, 0, none⟩) n1 d1, .slice (some ⟨g2, 0, none⟩) n1 d2, .slice (some ⟨g3, 0, none⟩) n3 d3], .agg #[.int .i64 2, .int .i64 a, .int .i64 (-1), .int .i64 q, .int .i64 ticks]] w _
  go_enter Try.func41, Try.ntmps41
  go_wp2_with (first
      | go_skip
      | ((with_reducible refine isBox ?_); refine bxA (t := 25) H ?_; clear H; intro bw _ H)
      | ((with_reducible refine isBox ?_); refine bxA (t := 79) H ?_; clear H; intro bs _ H)
      | ((with_reducible refine isLoad ?_); refine ld1A H ?_ (hT := by first | exact kIntA | exact kInts) (hm := by (repeat (first | exact List.Mem.head _ | refine List.Mem.tail _ ?_ | refine List.mem_append_right _ ?_ | assumption))))
      | ((with_reducible refine isLoad ?_); refine ldA H ?_ (hT := by first | exact rWld | exact rStp) (hm := by (repeat (first | exact List.Mem.head _ | refine List.Mem.tail _ ?_ | refine List.mem_append_right _ ?_ | assumption))))
      | ((with_reducible refine isSlc ?_); refine bsA (d := 9) 3 [.int .i64 a] 1 H ?_; clear H; intro gz _ H; have R := R0 gz)
      | ((with_reducible refine isAlloc ?_); refine alA H ?_ (hz := zInts); clear H; intro bo _ H)
      | ((with_reducible refine isStore ?_); first | (refine st1A (v := .slice B3 (1 + 1) c3) H ?_ (hT := sInts) (hu := by (repeat (first | apply Upd.head | apply Upd.tail | apply Upd.appA | assumption))); clear H; intro _ H) | (refine st1A (v := .slice (some ⟨gz, 0, none⟩) 1 1) H ?_ (hT := sInts) (hu := by (repeat (first | apply Upd.head | apply Upd.tail | apply Upd.appA | assumption))); clear H; intro _ H)))
  go_at_call 53
  refine Calls.mono (spot_any w0 _ _ bo _ _ _ _ q H R (by omega) (by omega)) ?_
  clear H R
  rintro _ _ ⟨v2, k2, cur2, rfl, hR, hk2, h2⟩
  obtain ⟨B2, c2, rfl, _⟩ := hR.shape
  have R := Lib.hid hR
  have H := Lib.hid h2
  clear hR h2
  go_wp2_with (first
      | go_skip
      | ((with_reducible refine isLoad ?_); refine ld1A H ?_ (hT := by first | exact kIntA | exact kInts) (hm := by (repeat (first | exact List.Mem.head _ | refine List.Mem.tail _ ?_ | refine List.mem_append_right _ ?_ | assumption))))
      | ((with_reducible refine isLoad ?_); refine ldA H ?_ (hT := by first | exact rWld | exact rStp) (hm := by (repeat (first | exact List.Mem.head _ | refine List.Mem.tail _ ?_ | refine List.mem_append_right _ ?_ | assumption)))))
  obtain ⟨h, hh⟩ : ∃ h, holdsP x a = h := ⟨_, rfl⟩
  have hhb := HB.out a
  rw [hh] at hhb
  have HH := Lib.hid hh
  clear hh
  have wh : IntKind.i64.wrap (10 + h) = 10 + h := IntWalk.i64_in _ (by omega)
  refine wp_region_Y 8 [.c (.slice B2 k2 c2), .c (.agg #[.int .i64 x.slots, .slice (some ⟨g1, 0, none⟩) n1 d1, .slice (some ⟨g2, 0, none⟩) n1 d2, .slice (some ⟨g3, 0, none⟩) n3 d3]), .c (.pointer (some ⟨bs, 1, none⟩)), .c (.int .i64 a), .y, .c (.int .i64 (10 + h)), .a, .y] ((bo, 22, [.slice B2 k2 c2]) :: ((bs, 79, [.int .i64 2, .int .i64 a, .int .i64 (-1), .int .i64 q, .int .i64 ticks]) :: (bw, 25, [.int .i64 x.slots, .slice (some ⟨g1, 0, none⟩) n1 d1, .slice (some ⟨g2, 0, none⟩) n1 d2, .slice (some ⟨g3, 0, none⟩) n3 d3]) :: m)) H (by (repeat (first | exact List.Sublist.refl _ | refine List.Sublist.cons_cons _ ?_ | refine List.Sublist.append_left ?_ _ | refine List.Sublist.trans ?_ (List.sublist_append_right _ _) | refine List.Sublist.cons _ ?_))) (by kernel_rfl) (by kernel_rfl) (by kernel_rfl) ?_
  simp only [List.take_succ_cons, List.take_zero, List.drop_succ_cons, List.drop_zero]
  refine wpY_load1 (by rfl) (by rfl) (by (first | exact wanted_none rfl | exact wanted_some rfl rfl)) kInts (by rfl) (by (repeat (first | exact List.Mem.head _ | refine List.Mem.tail _ ?_ | refine List.mem_append_right _ ?_ | assumption))) (by rfl) ?_
  (simp only [Act.put, List.setIfInBounds_toArray, List.set_cons_succ, List.set_cons_zero])
  refine wpY_load (by rfl) (by rfl) (by (first | exact wanted_none rfl | exact wanted_some rfl rfl)) rWld (by rfl) (by (repeat (first | exact List.Mem.head _ | refine List.Mem.tail _ ?_ | refine List.mem_append_right _ ?_ | assumption))) (by first | rfl | ((simp only [List.drop, List.take]); rfl)) (by rfl) ?_
  (simp only [Act.put, List.setIfInBounds_toArray, List.set_cons_succ, List.set_cons_zero])
  refine wpY_c (by rfl) (by (first | exact wanted_none rfl | exact wanted_some rfl rfl)) (by intro W _; first | (go_simp; rfl) | (go_simp; done) | (trace_state; fail)) ?_
  (simp only [Act.put, List.setIfInBounds_toArray, List.set_cons_succ, List.set_cons_zero])
  refine wpY_load1 (by rfl) (by rfl) (by (first | exact wanted_none rfl | exact wanted_some rfl rfl)) kIntA (by rfl) (by (repeat (first | exact List.Mem.head _ | refine List.Mem.tail _ ?_ | refine List.mem_append_right _ ?_ | assumption))) (by rfl) ?_
  (simp only [Act.put, List.setIfInBounds_toArray, List.set_cons_succ, List.set_cons_zero])
  refine wpY_y (by rfl) (by (first | exact wanted_none rfl | exact wanted_some rfl rfl)) (fun G F W HF hG => ?_)
  go_simp
  unfold upY
  refine Calls.mono (Holds_any x _ _ _ n1 n1 n3 d1 d2 d3 _ (WX.out.rw4 (HF.out.hld (fun z hz => by have := HE.out z hz; simp [this])) b1.2 b3.2) a h (by omega) (by omega) HH) ?_
  rintro _ W2 ⟨rfl, hb⟩
  refine ⟨_, rfl, hG _ _ ((bo, 22, [.slice B2 k2 c2]) :: (rowE (.slice B2 k2 c2) 3 cur2 ++ ((bs, 79, [.int .i64 2, .int .i64 a, .int .i64 (-1), .int .i64 q, .int .i64 ticks]) :: (bw, 25, [.int .i64 x.slots, .slice (some ⟨g1, 0, none⟩) n1 d1, .slice (some ⟨g2, 0, none⟩) n1 d2, .slice (some ⟨g3, 0, none⟩) n3 d3]) :: m))) (HF.out.go hb) (by (repeat (first | exact List.Sublist.refl _ | refine List.Sublist.cons_cons _ ?_ | refine List.Sublist.append_left ?_ _ | refine List.Sublist.trans ?_ (List.sublist_append_right _ _) | refine List.Sublist.cons _ ?_))) ?_⟩
  clear HF hG hb
  (simp only [Act.put, List.setIfInBounds_toArray, List.set_cons_succ, List.set_cons_zero])
  refine wpY_c (by rfl) (by (first | exact wanted_none rfl | exact wanted_some rfl rfl)) (by intro W _; first | (go_simp; rfl) | (go_simp; done) | (trace_state; fail)) ?_
  (simp only [Act.put, List.setIfInBounds_toArray, List.set_cons_succ, List.set_cons_zero])
  refine wpY_V 3 ([.int .i64 (10 + h)]) 1 (by rfl) (by rfl) (by intro W; kernel_rfl) ?_
  intro gq
  (simp only [Act.put, List.setIfInBounds_toArray, List.set_cons_succ, List.set_cons_zero])
  refine wpY_app [(gq, 3, [.int .i64 (10 + h)]), (bo, 22, [.slice B2 k2 c2])] ((bs, 79, [.int .i64 2, .int .i64 a, .int .i64 (-1), .int .i64 q, .int .i64 ticks]) :: (bw, 25, [.int .i64 x.slots, .slice (some ⟨g1, 0, none⟩) n1 d1, .slice (some ⟨g2, 0, none⟩) n1 d2, .slice (some ⟨g3, 0, none⟩) n3 d3]) :: m) (by rfl) (by (first | exact wanted_none rfl | exact wanted_some rfl rfl)) R iInt1 (by decide) Try.underlying22 (by rfl) (by rfl) (by rfl) (.head _) (by rfl) (by rfl) (by omega) (by unfold maxLen; omega) (by omega) (by rfl) (by intro z hz; simp only [List.cons_append, List.nil_append, List.mem_cons] at hz ⊢; rcases hz with h | h | h <;> simp [h]) (fun v3 cur3 R3 => ?_)
  (simp only [Act.put, List.setIfInBounds_toArray, List.set_cons_succ, List.set_cons_zero])
  refine wpY_nil ?_
  clear H
  intro _ H
  simp only [List.cons_append, List.nil_append] at H
  obtain ⟨B3, c3, rfl, _⟩ := R3.out.shape
  clear R
  obtain ⟨k3, hk3⟩ : ∃ k, k2 + 1 = k := ⟨_, rfl⟩
  rw [hk3] at R3 H ⊢
  go_wp2_with (first
      | go_skip
      | ((with_reducible refine isLoad ?_); refine ld1A H ?_ (hT := by first | exact kIntA | exact kInts) (hm := by (repeat (first | exact List.Mem.head _ | refine List.Mem.tail _ ?_ | refine List.mem_append_right _ ?_ | assumption))))
      | ((with_reducible refine isStore ?_); first | (refine st1A (v := .slice B3 k3 c3) H ?_ (hT := sInts) (hu := by (repeat (first | apply Upd.head | apply Upd.tail | apply Upd.appA | assumption))); clear H; intro _ H)))
  replace H := Lib.hid (H.out.perm mid_inA)
  rw [show [Value.int .i64 (10 + h)] = [10 + h].map (Value.int .i64) from rfl, ← ints_app] at R3
  have R := R3
  clear R3
  obtain ⟨g9, c9, e9⟩ := R.out.someI (by simp)
  cases e9
  go_at_call 54
  refine Calls.mono (Sort_E (X := [(bo, 22, [_])]) R.out H.out (by omega)) ?_
  rintro _ _ ⟨rfl, ys, cur4, hm1, hl1, hR, h2⟩
  clear R H
  have R := Lib.hid hR
  have H := Lib.hid h2
  simp only [List.cons_append, List.nil_append] at H
  clear hR h2
  go_wp2_with (first
      | go_skip
      | ((with_reducible refine isLoad ?_); refine ld1A H ?_ (hT := by first | exact kIntA | exact kInts) (hm := by (repeat (first | exact List.Mem.head _ | refine List.Mem.tail _ ?_ | refine List.mem_append_right _ ?_ | assumption)))))
  go_at_call 55
  refine Calls.mono (Compact_E (X := [(bo, 22, [_])]) R.out H.out (by omega)) ?_
  rintro _ _ ⟨k9, ys9, cur5, rfl, hm2, hk9, hR, h2⟩
  clear R H
  have R := Lib.hid hR
  have H := Lib.hid h2
  simp only [List.cons_append, List.nil_append] at H
  clear hR h2
  go_wp2_with (first
      | go_skip
      | ((with_reducible refine isLoad ?_); refine ld1A H ?_ (hT := by first | exact kIntA | exact kInts) (hm := by (repeat (first | exact List.Mem.head _ | refine List.Mem.tail _ ?_ | refine List.mem_append_right _ ?_ | assumption)))))
  go_ret
  refine ⟨_, k9, ys9, cur5, rfl, fun t => ?_, by omega, R.out, H.out.sub (by (repeat (first | exact List.Sublist.refl _ | refine List.Sublist.cons_cons _ ?_ | refine List.Sublist.append_left ?_ _ | refine List.Sublist.trans ?_ (List.sublist_append_right _ _) | refine List.Sublist.cons _ ?_)))⟩
  rw [hm2, hm1]
  unfold touchL
  simp [hq, HH.out]
set_option maxHeartbeats 4000000 in
theorem touch_5 (x : AW) (a : Nat) (ticks : Int) : TouchC x ⟨4, a, -1, -1, ticks⟩ := by
  intro g1 g2 g3 n1 n3 d1 d2 d3 w0 w m E0 H HE WX hv b1 b3 HC
  obtain ⟨hf, ha, hpp, hqq, _⟩ := canP_ok HC.out
  simp only at ha hpp hqq
  have hl := hv.out.a4
  have hl2 := hv.out.p6
  have hl3 := hv.out.s8
  have R0 : ∀ g, Hid (RowV 1 (.slice (some ⟨g, 0, none⟩) 1 1) 1 ([(a : Int)].map (Value.int .i64)) [.int .i64 a]) := fun g => Lib.hid (litI g a)
  have WB := Lib.hid (whereP_bd hv.out)
  have HB := Lib.hid (holdsP_bd hv.out)
  obtain ⟨zs, hzs⟩ : ∃ z, x.spot[a]? = some z := ⟨_, List.getElem?_eq_getElem (by omega)⟩
  have ZS := Lib.hid hzs
  have hzb := hv.out.spot a zs hzs
  have hzs1 : -1 ≤ zs ∧ zs ≤ 1000 := by omega
  have h3n : a < n3 := by
    have h := (WX.out.r3.cells_ (H.out.hld HE.out)).2.2.1
    simp at h
    omega
  clear hf HC hzs hzb
  show Calls Try.prog 41 #[.agg #[.int .i64 x.slots, .slice (some ⟨g1, 0, none⟩) n1 d1, .slice (some ⟨g2, 0, none⟩) n1 d2, .slice (some ⟨g3, 0, none⟩) n3 d3], .agg #[.int .i64 4, .int .i64 a, .int .i64 (-1), .int .i64 (-1), .int .i64 ticks]] w _
  go_enter Try.func41, Try.ntmps41
  go_wp2_with (first
      | go_skip
      | ((with_reducible refine isBox ?_); refine bxA (t := 25) H ?_; clear H; intro bw _ H)
      | ((with_reducible refine isBox ?_); refine bxA (t := 79) H ?_; clear H; intro bs _ H)
      | ((with_reducible refine isLoad ?_); refine ld1A H ?_ (hT := by first | exact kIntA | exact kInts) (hm := by (repeat (first | exact List.Mem.head _ | refine List.Mem.tail _ ?_ | refine List.mem_append_right _ ?_ | assumption))))
      | ((with_reducible refine isLoad ?_); refine ldA H ?_ (hT := by first | exact rWld | exact rStp) (hm := by (repeat (first | exact List.Mem.head _ | refine List.Mem.tail _ ?_ | refine List.mem_append_right _ ?_ | assumption))))
      | ((with_reducible refine isSlc ?_); refine bsA (d := 9) 3 [.int .i64 a] 1 H ?_; clear H; intro gz _ H; have R := R0 gz)
      | ((with_reducible refine isAlloc ?_); refine alA H ?_ (hz := zInts); clear H; intro bo _ H)
      | ((with_reducible refine isStore ?_); first | (refine st1A (v := .slice B3 (1 + 1) c3) H ?_ (hT := sInts) (hu := by (repeat (first | apply Upd.head | apply Upd.tail | apply Upd.appA | assumption))); clear H; intro _ H) | (refine st1A (v := .slice (some ⟨gz, 0, none⟩) 1 1) H ?_ (hT := sInts) (hu := by (repeat (first | apply Upd.head | apply Upd.tail | apply Upd.appA | assumption))); clear H; intro _ H)))
  go_wp2_with (first
      | go_skip
      | ((with_reducible refine isBox ?_); refine bxA (t := 25) H ?_; clear H; intro bw _ H)
      | ((with_reducible refine isBox ?_); refine bxA (t := 79) H ?_; clear H; intro bs _ H)
      | ((with_reducible refine isLoad ?_); refine ld1A H ?_ (hT := by first | exact kIntA | exact kInts) (hm := by (repeat (first | exact List.Mem.head _ | refine List.Mem.tail _ ?_ | refine List.mem_append_right _ ?_ | assumption))))
      | ((with_reducible refine isLoad ?_); refine ldA H ?_ (hT := by first | exact rWld | exact rStp) (hm := by (repeat (first | exact List.Mem.head _ | refine List.Mem.tail _ ?_ | refine List.mem_append_right _ ?_ | assumption))))
      | ((with_reducible refine isSlc ?_); refine bsA (d := 9) 3 [.int .i64 a] 1 H ?_; clear H; intro gz _ H; have R := R0 gz)
      | ((with_reducible refine isAlloc ?_); refine alA H ?_ (hz := zInts); clear H; intro bo _ H)
      | ((with_reducible refine isStore ?_); first | (refine st1A (v := .slice B3 (1 + 1) c3) H ?_ (hT := sInts) (hu := by (repeat (first | apply Upd.head | apply Upd.tail | apply Upd.appA | assumption))); clear H; intro _ H) | (refine st1A (v := .slice (some ⟨gz, 0, none⟩) 1 1) H ?_ (hT := sInts) (hu := by (repeat (first | apply Upd.head | apply Upd.tail | apply Upd.appA | assumption))); clear H; intro _ H)))
  obtain ⟨g9, c9, e9⟩ := R.out.someI (by simp)
  cases e9
  go_at_call 54
  refine Calls.mono (Sort_E (X := [(bo, 22, [_])]) R.out H.out (by omega)) ?_
  rintro _ _ ⟨rfl, ys, cur4, hm1, hl1, hR, h2⟩
  clear R H
  have R := Lib.hid hR
  have H := Lib.hid h2
  simp only [List.cons_append, List.nil_append] at H
  clear hR h2
  go_wp2_with (first
      | go_skip
      | ((with_reducible refine isLoad ?_); refine ld1A H ?_ (hT := by first | exact kIntA | exact kInts) (hm := by (repeat (first | exact List.Mem.head _ | refine List.Mem.tail _ ?_ | refine List.mem_append_right _ ?_ | assumption)))))
  go_at_call 55
  refine Calls.mono (Compact_E (X := [(bo, 22, [_])]) R.out H.out (by omega)) ?_
  rintro _ _ ⟨k9, ys9, cur5, rfl, hm2, hk9, hR, h2⟩
  clear R H
  have R := Lib.hid hR
  have H := Lib.hid h2
  simp only [List.cons_append, List.nil_append] at H
  clear hR h2
  go_wp2_with (first
      | go_skip
      | ((with_reducible refine isLoad ?_); refine ld1A H ?_ (hT := by first | exact kIntA | exact kInts) (hm := by (repeat (first | exact List.Mem.head _ | refine List.Mem.tail _ ?_ | refine List.mem_append_right _ ?_ | assumption)))))
  go_ret
  refine ⟨_, k9, ys9, cur5, rfl, fun t => ?_, by omega, R.out, H.out.sub (by (repeat (first | exact List.Sublist.refl _ | refine List.Sublist.cons_cons _ ?_ | refine List.Sublist.append_left ?_ _ | refine List.Sublist.trans ?_ (List.sublist_append_right _ _) | refine List.Sublist.cons _ ?_)))⟩
  rw [hm2, hm1]
  unfold touchL
  simp []
end Go.Proofs.Ytbhbbnmllokglaa

namespace Go.Proofs.Ytbhbbnmllokglaa
open Go.RowKit
set_option linter.unusedVariables false
set_option maxRecDepth 100000

theorem touch_any (x : AW) (s : St) : TouchC x s := by
  intro g1 g2 g3 n1 n3 d1 d2 d3 w0 w m E0 H HE WX hv b1 b3 HC
  obtain ⟨kind, arm, part, slot, ticks⟩ := s
  have hf := (canP_ok HC.out).1
  have ha := hf.2.2.1
  simp only at ha
  obtain ⟨a, rfl⟩ := Int.eq_ofNat_of_zero_le ha
  rcases form_cases hf with h | h | h | h | h | h <;> obtain ⟨h1, h2, h3⟩ := h <;> simp only at h1 h2 h3 <;> subst h1
  · subst h3; exact touch_0 x a ticks part h2 g1 g2 g3 n1 n3 d1 d2 d3 w0 w m E0 H HE WX hv b1 b3 HC
  · subst h2; exact touch_1 x a ticks slot h3 g1 g2 g3 n1 n3 d1 d2 d3 w0 w m E0 H HE WX hv b1 b3 HC
  · subst h3; exact touch_2 x a ticks part h2 g1 g2 g3 n1 n3 d1 d2 d3 w0 w m E0 H HE WX hv b1 b3 HC
  · subst h3; exact touch_3 x a ticks part h2 g1 g2 g3 n1 n3 d1 d2 d3 w0 w m E0 H HE WX hv b1 b3 HC
  · subst h2; exact touch_4 x a ticks slot h3 g1 g2 g3 n1 n3 d1 d2 d3 w0 w m E0 H HE WX hv b1 b3 HC
  · subst h2; subst h3; exact touch_5 x a ticks g1 g2 g3 n1 n3 d1 d2 d3 w0 w m E0 H HE WX hv b1 b3 HC
theorem runL_can : ∀ (l : List St) (x z y : AW) (j : Nat) (s : St), runL x l = some y → runL x (l.take j) = some z → l[j]? = some s → canP z s = 0
  | [], _, _, _, _, _, _, _, h => by simp at h
  | a :: l, x, z, y, 0, s, h0, h1, h2 => by
    simp at h2
    subst h2
    rw [List.take_zero, runL_nil] at h1
    cases h1
    rw [runL_cons] at h0
    split at h0
    · assumption
    · cases h0
  | a :: l, x, z, y, j + 1, s, h0, h1, h2 => by
    rw [runL_cons] at h0
    rw [List.take_succ_cons, runL_cons] at h1
    split at h0
    · rename_i hc
      rw [if_pos hc] at h1
      exact runL_can l _ z y j s h0 h1 (by simpa using h2)
    · cases h0
theorem runL_take {l : List St} {x z : AW} {j : Nat} {s : St} (h : runL x (l.take j) = some z) (hs : l[j]? = some s) (hc : canP z s = 0) : runL x (l.take (j + 1)) = some (doS z s) := by
  obtain ⟨hj, rfl⟩ := List.getElem?_eq_some_iff.1 hs
  rw [List.take_succ_eq_append_getElem hj]
  exact runL_step h hc
theorem kStps : ∃ d, Try.prog.underlying 37 = some d ∧ d.isRow = false := ⟨_, Try.underlying37, rfl⟩
theorem iSl : InfoT Try.prog 22 1 24 := InfoT.of zInts (by kernel_rfl) rfl
/-- Rows of integers, one after another. -/
def TRs (E : Ents) (tts : List (List Int)) (vs : List Value) : Prop := All2 (fun (ys : List Int) (v : Value) => ∃ n, n ≤ 20 ∧ RowIn E 3 1 v n (ys.map (Value.int .i64))) tts vs
theorem TRs.mono {E E' : Ents} {tts : List (List Int)} {vs : List Value} (h : TRs E tts vs) (hs : ∀ x ∈ E, x ∈ E') : TRs E' tts vs := All2.mono h fun _ _ ⟨n, h1, h2⟩ => ⟨n, h1, h2.mono hs⟩
theorem Hp.pickT {w0 w : World} {g b p q : Nat × TypeId × List Value} {E' RT R4 EN m : Ents} (h : Hp w0 w (E' ++ (g :: (RT ++ (b :: p :: q :: (R4 ++ (EN ++ m))))))) : Hp w0 w (p :: q :: (R4 ++ ((E' ++ (RT ++ EN)) ++ m))) := by
  have h1 : Hp w0 w (E' ++ (RT ++ (p :: q :: (R4 ++ (EN ++ m))))) := h.sub (List.Sublist.append_left (List.Sublist.cons _ (List.Sublist.append_left (List.Sublist.cons _ (List.Sublist.refl _)) _)) _)
  refine h1.perm ?_
  rw [← List.append_assoc]
  refine List.perm_middle.trans (.cons _ (List.perm_middle.trans (.cons _ ?_)))
  refine (List.perm_append_comm_assoc _ _ _).trans (List.Perm.append_left _ ?_)
  simp only [List.append_assoc]
  exact List.Perm.refl _
end Go.Proofs.Ytbhbbnmllokglaa

namespace Go.Proofs.Ytbhbbnmllokglaa
open Go.RowKit
set_option linter.unusedVariables false
set_option maxRecDepth 100000

set_option maxHeartbeats 8000000 in
theorem Things_any (x : AW) (g1 g2 g3 n1 n3 d1 d2 d3 : Nat) (A : Option Addr) (k c : Nat) (ss : List St) (y : AW) (w0 w : World) (m E0 E2 : Ents) (H : Hid (Hp w0 w m)) (HE : Hid (∀ y ∈ E0, y ∈ m)) (WX : Hid (WE E0 x g1 g2 g3 n1 n3 d1 d2 d3)) (hv : Hid (ValidA x)) (b1 : 0 < n1 ∧ n1 ≤ 100) (b3 : 0 < n3 ∧ n3 ≤ 100) (RS_ : Hid (RowIn E2 79 5 (.slice A k c) k (flat St.cells ss))) (HE2 : Hid (∀ y ∈ E2, y ∈ m)) (hk : Hid (ss.length = k)) (hk40 : k ≤ 40) (hy : Hid (runL x ss = some y)) :
    Calls Try.prog 22 #[x.vE g1 g2 g3 n1 n3 d1 d2 d3, .slice A k c] w fun e w' => ∃ (v : Value) (vs cur : List Value) (tts : List (List Int)) (EN : Ents), e = .returned (.tuple #[v, .int .i64 0]) ∧ vs.length = k ∧ RowV 1 v k vs cur ∧ TRs EN tts vs ∧ (∀ (i : Nat) (xi : AW) (si : St), runL x (ss.take i) = some xi → ss[i]? = some si → ∃ ys, tts[i]? = some ys ∧ TouchP xi si ys) ∧ Hp w0 w' (rowE v 22 cur ++ (EN ++ m)) := by
  have hkd : decide ((40 : Int) < k) = false := decide_eq_false (by omega)
  go_enter Try.func22, Try.ntmps22
  go_wp2_with (first
      | go_skip
      | ((with_reducible refine isBox ?_); refine bxA (t := 25) H ?_; clear H; intro b2 _ H)
      | ((with_reducible refine isLoad ?_); refine ldA H ?_ (hT := by first | exact rWld | exact rStp) (hm := by (repeat (first | exact List.Mem.head _ | refine List.Mem.tail _ ?_ | refine List.mem_append_right _ ?_ | assumption))))
      | ((with_reducible refine isAlloc ?_); refine alA H ?_ (hz := zWld); clear H; intro b6 _ H)
      | ((with_reducible refine isStore ?_); refine stA H ?_ (hT := by first | exact rWld | exact rStp) (hu := by (repeat (first | apply Upd.head | apply Upd.tail | apply Upd.appA | assumption))); clear H; intro _ H))
  go_at_call 15
  refine Calls.mono (Run_E H.out (fun z hz => .tail _ (HE.out z hz)) WX.out hv.out b1 b3 A k c ss (fun z hz => .tail _ (HE2.out z hz)) RS_.out hk.out (by omega) y hy.out) ?_
  rintro _ _ ⟨p1, p2, p3, q1, q2, q3, EY, rfl, _, h4⟩
  replace H := Lib.hid h4
  clear h4
  go_wp2_with (first
      | go_skip
      | ((with_reducible refine isBox ?_); refine bxA (t := 25) H ?_; clear H; intro b2 _ H)
      | ((with_reducible refine isLoad ?_); refine ldA H ?_ (hT := by first | exact rWld | exact rStp) (hm := by (repeat (first | exact List.Mem.head _ | refine List.Mem.tail _ ?_ | refine List.mem_append_right _ ?_ | assumption))))
      | ((with_reducible refine isAlloc ?_); refine alA H ?_ (hz := zWld); clear H; intro b6 _ H)
      | ((with_reducible refine isStore ?_); refine stA H ?_ (hT := by first | exact rWld | exact rStp) (hu := by (repeat (first | apply Upd.head | apply Upd.tail | apply Upd.appA | assumption))); clear H; intro _ H))
  replace H := Lib.hid (H.out.perm (List.Perm.cons _ List.perm_middle))
  obtain ⟨cs6, h6⟩ : ∃ cs : List Value, cs = [.int .i64 y.slots, .slice (some ⟨p1, 0, none⟩) n1 q1, .slice (some ⟨p2, 0, none⟩) n1 q2, .slice (some ⟨p3, 0, none⟩) n3 q3] := ⟨_, rfl⟩
  rw [← h6] at H
  clear h6
  go_loopw [9, 27] (fun vs_ i_ wr => ∃ (j : Nat) (v : Value) (vs cur : List Value) (tts : List (List Int)) (xj : AW) (h1 h2 h3 e1 e2 e3 : Nat) (EN EW : Ents), v = vs_ ∧ i_ = .int .i64 j ∧ j ≤ k ∧ vs.length = j ∧ Hid (runL x (ss.take j) = some xj) ∧ Hid (ValidA xj) ∧ Hid (WE EW xj h1 h2 h3 n1 n3 e1 e2 e3) ∧ Hid (∀ z ∈ EW, z ∈ EN ++ m) ∧ Hid (TRs EN tts vs) ∧ Hid (∀ (i : Nat) (xi : AW) (si : St), i < j → runL x (ss.take i) = some xi → ss[i]? = some si → ∃ ys, tts[i]? = some ys ∧ TouchP xi si ys) ∧ Hid (RowV 1 v j vs cur) ∧ Hid (Hp w0 wr ((b6, 25, cs6) :: (b2, 25, [.int .i64 xj.slots, .slice (some ⟨h1, 0, none⟩) n1 e1, .slice (some ⟨h2, 0, none⟩) n1 e2, .slice (some ⟨h3, 0, none⟩) n3 e3]) :: (rowE v 22 cur ++ (EN ++ m))))) (fun _ i_ _ => k - (intOf i_).toNat)
  case atStart => exact ⟨0, _, [], [], [], x, g1, g2, g3, d1, d2, d3, EY, E0, rfl, rfl, by omega, rfl, Lib.hid (runL_nil x), hv, WX, Lib.hid (fun z hz => List.mem_append_right _ (HE.out z hz)), Lib.hid All2.nil, Lib.hid (fun i _ _ hi => by omega), Lib.hid (RowV.nil 1), H⟩
  case round =>
    clear H
    obtain ⟨j, v, vs, cur, tts, xj, h1, h2, h3, e1, e2, e3, EN, EW, rfl, rfl, hj, hvl, RL, VX, WJ, HEW, TR, TT, R, H⟩ := hrel
    by_cases hlt : j < k
    · obtain ⟨s, hs⟩ : ∃ s, ss[j]? = some s := ⟨_, List.getElem?_eq_getElem (by rw [hk.out]; exact hlt)⟩
      obtain ⟨gs, c', e1_, hr⟩ := RS_.out.at_ St.len hs (by decide)
      injection e1_ with e1_ _ e3_
      subst e1_
      have X := Lib.hid (hr _ (H.out.hld (fun z hz => .tail _ (.tail _ (List.mem_append_right _ (List.mem_append_right _ (HE2.out z hz)))))))
      have HC := Lib.hid (runL_can ss x xj y j s hy.out RL.out hs)
      have HS := Lib.hid hs
      clear hr e3_ hs
      go_wp2_with (first
          | go_skip
          | ((with_reducible refine isLoad ?_); refine ldX (cs := [.int .i64 s.kind, .int .i64 s.arm, .int .i64 s.part, .int .i64 s.slot, .int .i64 s.ticks]) X ?_ (hT := rStp))
          | ((with_reducible refine isAlloc ?_); refine alA H ?_ (hz := zStp); clear H; intro b11 _ H)
          | ((with_reducible refine isStore ?_); refine stA H ?_ (hT := by first | exact rWld | exact rStp) (hu := by (repeat (first | apply Upd.head | apply Upd.tail | apply Upd.appA | assumption))); clear H; intro _ H)
          | ((with_reducible refine isLoad ?_); refine ldA H ?_ (hT := by first | exact rWld | exact rStp) (hm := by (repeat (first | exact List.Mem.head _ | refine List.Mem.tail _ ?_ | refine List.mem_append_right _ ?_ | assumption)))))
      go_at_call 41
      have hcall := touch_any xj s h1 h2 h3 n1 n3 e1 e2 e3 w0 _ _ EW H (Lib.hid (fun z hz => .tail _ (.tail _ (.tail _ (List.mem_append_right _ (HEW.out z hz)))))) WJ VX b1 b3 HC
      refine Calls.mono hcall ?_
      clear hcall
      rintro _ _ ⟨vT, kT, ys, curT, rfl, hTP, hkT, hRT, h4⟩
      obtain ⟨BT, cT, rfl, _⟩ := hRT.shape
      replace H := Lib.hid h4
      have RT := Lib.hid hRT
      have TP := Lib.hid hTP
      clear h4 hRT hTP X
      go_wp2_with (first
          | go_skip
          | ((with_reducible refine isSlc ?_); refine bsA 22 [.slice BT kT cT] 1 H ?_; clear H; intro gz _ H)
          | ((with_reducible refine isApp ?_); refine wpList_appH ((gz, 22, [.slice BT kT cT]) :: (rowE (.slice BT kT cT) 3 curT ++ [(b11, 79, [.int .i64 s.kind, .int .i64 s.arm, .int .i64 s.part, .int .i64 s.slot, .int .i64 s.ticks]), (b6, 25, cs6), (b2, 25, [.int .i64 xj.slots, .slice (some ⟨h1, 0, none⟩) n1 e1, .slice (some ⟨h2, 0, none⟩) n1 e2, .slice (some ⟨h3, 0, none⟩) n3 e3])])) (EN ++ m) H R (by simp only [List.cons_append, List.append_assoc, List.nil_append]) iSl (by decide) Try.underlying40 (by rfl) (by rfl) (by rfl) (by rfl) (.head _) (by rfl) (by rfl) (by omega) (by simp only [maxLen]; omega) (by omega) ?_; clear H R; intro v3 cur3 _ R H; simp only [List.cons_append, List.append_assoc, List.nil_append] at H)
          | ((with_reducible refine isLoad ?_); refine ldA H ?_ (hT := by first | exact rWld | exact rStp) (hm := by (repeat (first | exact List.Mem.head _ | refine List.Mem.tail _ ?_ | refine List.mem_append_right _ ?_ | assumption))))
          | ((with_reducible refine isStore ?_); refine stA H ?_ (hT := by first | exact rWld | exact rStp) (hu := by (repeat (first | apply Upd.head | apply Upd.tail | apply Upd.appA | assumption))); clear H; intro _ H))
      go_at_call 21
      refine Calls.mono (Do_E H.out (E := EW) (fun z hz => by have := HEW.out z hz; simp only [List.mem_append, List.mem_cons] at this ⊢; rcases this with h | h <;> simp [h]) WJ.out VX.out b1 b3 s HC.out) ?_
      rintro _ _ ⟨k1, k2, k3, f1, f2, f3, E', rfl, hW, h4⟩
      replace H := Lib.hid h4
      have WJ' := Lib.hid hW
      clear h4 hW
      go_wp2_with (first
          | go_skip
          | ((with_reducible refine isSlc ?_); refine bsA 22 [.slice BT kT cT] 1 H ?_; clear H; intro gz _ H)
          | ((with_reducible refine isApp ?_); refine wpList_appH ((gz, 22, [.slice BT kT cT]) :: (rowE (.slice BT kT cT) 3 curT ++ [(b11, 79, [.int .i64 s.kind, .int .i64 s.arm, .int .i64 s.part, .int .i64 s.slot, .int .i64 s.ticks]), (b6, 25, cs6), (b2, 25, [.int .i64 xj.slots, .slice (some ⟨h1, 0, none⟩) n1 e1, .slice (some ⟨h2, 0, none⟩) n1 e2, .slice (some ⟨h3, 0, none⟩) n3 e3])])) (EN ++ m) H R (by simp only [List.cons_append, List.append_assoc, List.nil_append]) iSl (by decide) Try.underlying40 (by rfl) (by rfl) (by rfl) (by rfl) (.head _) (by rfl) (by rfl) (by omega) (by simp only [maxLen]; omega) (by omega) ?_; clear H R; intro v3 cur3 _ R H; simp only [List.cons_append, List.append_assoc, List.nil_append] at H)
          | ((with_reducible refine isLoad ?_); refine ldA H ?_ (hT := by first | exact rWld | exact rStp) (hm := by (repeat (first | exact List.Mem.head _ | refine List.Mem.tail _ ?_ | refine List.mem_append_right _ ?_ | assumption))))
          | ((with_reducible refine isStore ?_); refine stA H ?_ (hT := by first | exact rWld | exact rStp) (hu := by (repeat (first | apply Upd.head | apply Upd.tail | apply Upd.appA | assumption))); clear H; intro _ H))
      replace H := Lib.hid (Hp.pickT H.out)
      have RL' := Lib.hid (runL_take RL.out HS.out HC.out)
      have VX' := Lib.hid (valid_do VX.out HC.out)
      have TR' : Hid (TRs (E' ++ (rowE (.slice BT kT cT) 3 curT ++ EN)) (tts ++ [ys]) (vs ++ [.slice BT kT cT])) := Lib.hid ((TR.out.mono (fun z hz => List.mem_append_right _ (List.mem_append_right _ hz))).snoc ⟨kT, hkT, RT.out.rowinA.mono (fun z hz => List.mem_append_right _ (List.mem_append_left _ hz))⟩)
      have htl : tts.length = j := TR.out.1.trans hvl
      have TT' : Hid (∀ (i : Nat) (xi : AW) (si : St), i < j + 1 → runL x (ss.take i) = some xi → ss[i]? = some si → ∃ ys', (tts ++ [ys])[i]? = some ys' ∧ TouchP xi si ys') := Lib.hid fun i xi si hi h5 h6 => by
        by_cases hij : i < j
        · obtain ⟨ys', h7, h8⟩ := TT.out i xi si hij h5 h6
          exact ⟨ys', by rw [List.getElem?_append_left (by omega)]; exact h7, h8⟩
        · obtain rfl : i = j := by omega
          have e1 := Option.some.inj (h5.symm.trans RL.out)
          have e2 := Option.some.inj (h6.symm.trans HS.out)
          subst e1
          subst e2
          exact ⟨ys, by rw [List.getElem?_append_right (by omega), htl, Nat.sub_self]; rfl, TP.out⟩
      rw [← doS_slots xj s] at H
      go_roundw
      case rel => exact ⟨j + 1, _, vs ++ [.slice BT kT cT], cur3, tts ++ [ys], doS xj s, k1, k2, k3, f1, f2, f3, E' ++ (rowE (.slice BT kT cT) 3 curT ++ EN), E', rfl, by go_num, by omega, by simp [hvl], RL', VX', WJ', Lib.hid (fun z hz => List.mem_append_left _ (List.mem_append_left _ hz)), TR', TT', R, H⟩
      case measure => simp [intOf]; omega
    · obtain rfl : j = k := by omega
      go_wp2_with (first
          | go_skip)
      go_ret2
      exact ⟨_, vs, cur, tts, EN, rfl, hvl, R.out, TR.out, fun i xi si h5 h6 => TT.out i xi si (by have := lt_of_at h6; have := hk.out; omega) h5 h6, H.out.drop.drop⟩
end Go.Proofs.Ytbhbbnmllokglaa

namespace Go.Proofs.Ytbhbbnmllokglaa
open Go.RowKit
set_option linter.unusedVariables false
set_option maxRecDepth 100000

/-- A row of integers that lies in known blocks, read as an argument. -/
theorem RowIn.ri_ {E : Ents} {B : Option Addr} {n c : Nat} {xs : List Int} (h : RowIn E 3 1 (.slice B n c) n (xs.map (Value.int .i64))) {w : World} (hw : Hld E w) : RI w B xs ∧ xs.length = n := by
  obtain ⟨cur, h1, h2⟩ := h
  have hl : xs.length = n := by simpa using h1.len
  refine ⟨fun hp => ?_, hl⟩
  obtain ⟨g, c', e⟩ := h1.someI (by intro e; simp at e; simp [e] at hp)
  cases e
  obtain ⟨a1, a2, a3, a4⟩ := RowIn.cells_ ⟨cur, h1, h2⟩ hw
  exact ⟨g, 0, rfl, a1, fun j x hj => by rw [Nat.zero_add]; exact a4 j _ (by rw [List.getElem?_map, hj]; rfl)⟩
/-- What the closure of Before looks at. -/
structure BefK (m : Ents) (b6 b9 kk : Nat) (vT : Value) (k : Nat) (vs curT : List Value) (EN : Ents) (tts : List (List Int)) : Prop where
  v6 : (b6, 40, [vT]) ∈ m
  v9 : (b9, 3, [.int .i64 kk]) ∈ m
  row : RowV 1 vT k vs curT
  rin : ∀ x ∈ rowE vT 22 curT, x ∈ m
  trs : TRs EN tts vs
  en : ∀ x ∈ EN, x ∈ m
  lt : kk < k
set_option maxHeartbeats 4000000 in
theorem bef1_any (w0 w : World) (m : Ents) (b6 b9 kk : Nat) (vT : Value) (k : Nat) (vs curT : List Value) (EN : Ents) (tts : List (List Int)) (ys : List Int) (z : Int) (H : Hid (Hp w0 w m)) (K : Hid (BefK m b6 b9 kk vT k vs curT EN tts)) (hy : Hid (tts[kk]? = some ys)) :
    Calls Try.prog 24 #[.int .i64 z, .pointer (some ⟨b6, 0, none⟩), .pointer (some ⟨b9, 0, none⟩)] w fun e w' => e = .returned (.bool (decide (z ∈ ys))) ∧ Hp w0 w' m := by
  obtain ⟨vy, hvy, n, hn, hR⟩ := K.out.trs.at_ hy.out
  obtain ⟨By, cy, rfl, _⟩ := hR.shape
  have RY := Lib.hid hR
  have M6 := Lib.hid K.out.v6
  have M9 := Lib.hid K.out.v9
  have hvl := K.out.row.len
  obtain ⟨gT, cT, e⟩ := K.out.row.someI (by intro e; rw [e] at hvy; simp at hvy)
  have X : Hid (w.cell? ⟨gT, kk, none⟩ = some (.slice By n cy)) := Lib.hid ((RowIn.cells_ (E := m) (by rw [← e]; exact ⟨curT, K.out.row, K.out.rin⟩) (H.out.hld fun x hx => hx)).2.2.2 kk _ hvy)
  have hlt := K.out.lt
  have MT := Lib.hid K.out.row.shape
  rw [e] at M6
  clear hR hvy e
  obtain ⟨_, _, hcT, _⟩ := MT.out
  go_enter Try.func24, Try.ntmps24
  go_wp2_with (first
      | go_skip
      | ((with_reducible refine isLoad ?_); first | (refine ld1A H ?_ (hT := kIis) (hm := M6.out)) | (refine ld1A H ?_ (hT := kIntA) (hm := M9.out)) | (refine ld1X X ?_ (hT := kInts))))
  go_at_call 12
  obtain ⟨hri, hyl⟩ := RY.out.ri_ (H.out.hld K.out.en)
  refine (containsI_any By n cy ys z (decide (z ∈ ys)) _ hri hyl (by omega) (Lib.hid rfl)).mono ?_
  rintro _ _ ⟨rfl, rfl⟩
  go_wp2_with (first
      | go_skip
      | ((with_reducible refine isLoad ?_); first | (refine ld1A H ?_ (hT := kIis) (hm := M6.out)) | (refine ld1A H ?_ (hT := kIntA) (hm := M9.out)) | (refine ld1X X ?_ (hT := kInts))))
  go_ret
  exact ⟨rfl, H.out⟩
end Go.Proofs.Ytbhbbnmllokglaa

namespace Go.Proofs.Ytbhbbnmllokglaa
open Go.RowKit
set_option linter.unusedVariables false
set_option maxRecDepth 100000

set_option maxHeartbeats 4000000 in
theorem idxF_any (w0 w : World) (m : Ents) (b6 b9 kk : Nat) (vT : Value) (k : Nat) (vs curT : List Value) (EN E : Ents) (tts : List (List Int)) (ys xs : List Int) (v : Value) (n : Nat) (H : Hid (Hp w0 w m)) (K : Hid (BefK m b6 b9 kk vT k vs curT EN tts)) (hy : Hid (tts[kk]? = some ys)) (RX : Hid (RowIn E 3 1 v n (xs.map (Value.int .i64)))) (hE : Hid (∀ x ∈ E, x ∈ m)) (hn : n ≤ 1000) :
    Calls Try.prog 42 #[v, .func (.func 24) #[] #[.pointer (some ⟨b6, 0, none⟩), .pointer (some ⟨b9, 0, none⟩)]] w fun e w' => ∃ r : Int, e = .returned (.int .i64 r) ∧ (0 ≤ r ↔ ∃ z ∈ xs, z ∈ ys) ∧ Hp w0 w' m := by
  obtain ⟨B, c, rfl, hcm⟩ := RX.out.shape
  have hxl := Lib.hid (RX.out.ri_ (H.out.hld hE.out)).2
  go_enter Try.func42, Try.ntmps42
  go_wp2_with (first
      | go_skip)
  go_loopw [8] (fun i_ wr => ∃ j : Nat, i_ = .int .i64 j ∧ j ≤ n ∧ Hid (∀ i z, i < j → xs[i]? = some z → z ∉ ys) ∧ Hid (Hp w0 wr m)) (fun i_ _ => n - (intOf i_).toNat)
  case atStart => exact ⟨0, rfl, by omega, Lib.hid (fun i z h => by omega), H⟩
  case round =>
    clear H
    obtain ⟨j, rfl, hj, NO, H⟩ := hrel
    by_cases hlt : j < n
    · obtain ⟨z, hz⟩ : ∃ z, xs[j]? = some z := ⟨_, List.getElem?_eq_getElem (by rw [hxl.out]; exact hlt)⟩
      obtain ⟨gx, c', e1⟩ : ∃ g c', (.slice B n c : Value) = .slice (some ⟨g, 0, none⟩) n c' := by
        obtain ⟨cur, q1, _⟩ := RX.out
        exact q1.someI (by intro e; have h := lt_of_at hz; simp at e; rw [e] at h; simp at h)
      cases e1
      have X := (RX.out.cells_ (H.out.hld hE.out)).2.2.2 j (.int .i64 z) (by rw [List.getElem?_map, hz]; rfl)
      have HZ := Lib.hid hz
      clear hz
      go_wp2_with (first
          | go_skip)
      go_at_call 24
      refine Calls.mono (bef1_any w0 _ m b6 b9 kk vT k vs curT EN tts ys z H K hy) ?_
      rintro _ _ ⟨rfl, h2⟩
      replace H := Lib.hid h2
      clear h2 X
      by_cases hm : z ∈ ys
      · have hd : decide (z ∈ ys) = true := decide_eq_true hm
        go_wp2_with (first
            | go_skip)
        go_ret
        exact ⟨j, rfl, ⟨fun _ => ⟨z, List.mem_of_getElem? HZ.out, hm⟩, fun _ => by omega⟩, H.out⟩
      · have hd : decide (z ∈ ys) = false := decide_eq_false hm
        go_wp2_with (first
            | go_skip)
        go_roundw
        case rel => exact ⟨j + 1, by go_num, by omega, Lib.hid (fun i z' hi hz' => by
          by_cases hij : i < j
          · exact NO.out i z' hij hz'
          · obtain rfl : i = j := by omega
            have e := Option.some.inj (hz'.symm.trans HZ.out)
            subst e
            exact hm), H⟩
        case measure => simp [intOf]; omega
    · obtain rfl : j = n := by omega
      go_wp2_with (first
          | go_skip)
      go_ret
      refine ⟨-1, rfl, ⟨fun h => absurd h (by omega), fun ⟨z, hz, hm⟩ => ?_⟩, H.out⟩
      obtain ⟨i, hi⟩ := List.mem_iff_getElem?.1 hz
      exact absurd hm (NO.out i z (by have := lt_of_at hi; have := hxl.out; omega) hi)
set_option maxHeartbeats 4000000 in
theorem contF_any (w0 w : World) (m : Ents) (b6 b9 kk : Nat) (vT : Value) (k : Nat) (vs curT : List Value) (EN E : Ents) (tts : List (List Int)) (ys xs : List Int) (v : Value) (n : Nat) (H : Hid (Hp w0 w m)) (K : Hid (BefK m b6 b9 kk vT k vs curT EN tts)) (hy : Hid (tts[kk]? = some ys)) (RX : Hid (RowIn E 3 1 v n (xs.map (Value.int .i64)))) (hE : Hid (∀ x ∈ E, x ∈ m)) (hn : n ≤ 1000) :
    Calls Try.prog 23 #[v, .func (.func 24) #[] #[.pointer (some ⟨b6, 0, none⟩), .pointer (some ⟨b9, 0, none⟩)]] w fun e w' => e = .returned (.bool (decide (∃ z ∈ xs, z ∈ ys))) ∧ Hp w0 w' m := by
  go_enter Try.func23, Try.ntmps23
  go_wp2_with (first
      | go_skip)
  go_at_call 42
  refine Calls.mono (idxF_any w0 _ m b6 b9 kk vT k vs curT EN E tts ys xs v n H K hy RX hE hn) ?_
  rintro _ _ ⟨r, rfl, hr, h2⟩
  replace H := Lib.hid h2
  have HR := Lib.hid hr
  clear h2 hr
  go_wp2_with (first
      | go_skip)
  go_ret
  refine ⟨ret_bool ?_, H.out⟩
  rw [decide_eq_decide]
  exact HR.out
end Go.Proofs.Ytbhbbnmllokglaa

namespace Go.Proofs.Ytbhbbnmllokglaa
open Go.RowKit
set_option linter.unusedVariables false
set_option maxRecDepth 100000

theorem exec_mk {P : Program} {a : Act} {o : Oper} {t e : TypeId} {x y : Operand} {n : Nat} {z : Value} {i : TypeInfo} (ho : o.op = .makeSlice t x y) (hx : a.eval x = .int .i64 n) (hy : a.eval y = .int .i64 n) (ht : P.underlying t = some (.slice e)) (hi : P.info? e = some i) (hz : i.zero = some z) (hs : i.size = 1) (hb : i.bytes ≤ 100) (hc : z.cells = #[z]) (hn : n ≤ 100000) (W : World) :
    (execOp a.eval o).run P W = .ok (.value (.slice (some ⟨W.heap.size, 0, none⟩) n n)) (W.alloc (.cells (List.replicate n z).toArray e)) := by
  have hr := run_makeSlice (P := P) (w := W) t e i z ht hi hz .i64 .i64 (n : Int) (n : Int) (by omega) (Int.le_refl _) (by rw [hs]; simp; omega) (by
    have : (i.bytes : Int) * n ≤ 100 * 100000 := Int.mul_le_mul (by omega) (by omega) (by omega) (by omega)
    omega) (by omega)
  simp only [Int.toNat_natCast, hs, Nat.mul_one, hc] at hr
  have hm : madeCells #[z] n = (List.replicate n z).toArray := by
    unfold madeCells
    apply Array.ext
    · simp
    · intro j h1 h2
      simp [Nat.mod_one]
  rw [hm] at hr
  unfold execOp
  simp only [ho, hx, hy]
  simp [hr, go_sem]
/-- make of a slice whose elements are one cell each. -/
theorem mkA {P : Program} {ops : Array Oper} {rest : List Oper} {o : Oper} {a : Act} {w0 w : World} {l : Ents} {Q : Exit → Act → World → Prop} (e : TypeId) (z : Value) (n : Nat) (H : Hid (Hp w0 w l)) {d : Tmp} {a3 : Nat → Act} (hK : ∀ (b : Nat) W', Hid (Hp w0 W' ((b, e, List.replicate n z) :: l)) → wpList P ops Q rest (a3 b) W')
    (hr : ∀ W : World, (execOp a.eval o).run P W = .ok (.value (.slice (some ⟨W.heap.size, 0, none⟩) n n)) (W.alloc (.cells (List.replicate n z).toArray e))) (hg : Region.wanted o (yielded ops a.tmps) = true := by first | exact wanted_none rfl | exact wanted_some rfl rfl) (hd : o.dst = some d := by rfl)
    (hn : ∀ b, a.put (some d) (.slice (some ⟨b, 0, none⟩) n n) = a3 b := by (intro b; simp only [Act.put, List.setIfInBounds_toArray, List.set_cons_succ, List.set_cons_zero]; rfl)) : wpList P ops Q (o :: rest) a w := by
  unfold wpList
  rw [if_pos hg]
  refine .inl ?_
  unfold Oper.wp
  rw [hr, Oper.upon_value, hd, hn]
  exact hK _ _ (Lib.hid (H.out.fresh ((Below.refl _ _).alloc (Nat.le_refl _) _) (Nat.le_refl _) (Blk.new _ _ _)))
theorem isMk {P : Program} {ops : Array Oper} {rest : List Oper} {a : Act} {w : World} {Q : Exit → Act → World → Prop} {d : Option Tmp} {ty : TypeId} {po : String} {af : Array Edge} {g : Option (Nat × Bool)} {t : TypeId} {x y : Operand} (h : wpList P ops Q (⟨d, .makeSlice t x y, ty, po, af, g⟩ :: rest) a w) : wpList P ops Q (⟨d, .makeSlice t x y, ty, po, af, g⟩ :: rest) a w := h
theorem iSlE : ∃ i, Try.prog.info? 22 = some i ∧ i.zero = some (.slice none 0 0) ∧ i.size = 1 ∧ i.bytes ≤ 100 := by
  obtain ⟨i, z, h1, h2, h3, h4, _⟩ := iSl.h
  have hz := zInts
  rw [h1] at hz
  exact ⟨i, h1, hz, h3, by omega⟩
/-- The earlier steps that involve one of the same things. -/
def befN (tts : List (List Int)) (q n : Nat) : List Nat := (List.range n).filter fun i => decide (∃ z ∈ tts.getD i [], z ∈ tts.getD q [])
def befP (tts : List (List Int)) (q : Nat) : List Int := (befN tts q q).map fun i : Nat => (i : Int)
theorem befN_succ (tts : List (List Int)) (q n : Nat) : befN tts q (n + 1) = befN tts q n ++ (if ∃ z ∈ tts.getD n [], z ∈ tts.getD q [] then [n] else []) := by
  unfold befN
  rw [List.range_succ, List.filter_append]
  congr 1
  by_cases h : ∃ z ∈ tts.getD n [], z ∈ tts.getD q []
  · rw [if_pos h]; exact List.filter_cons_of_pos (decide_eq_true h)
  · rw [if_neg h]; exact List.filter_cons_of_neg (by rw [decide_eq_true_iff]; exact h)
def BRs (E : Ents) (bl : List (List Int)) (os : List Value) : Prop := All2 (fun (ys : List Int) (v : Value) => ∃ n, n ≤ 40 ∧ RowIn E 3 1 v n (ys.map (Value.int .i64))) bl os
theorem BRs.mono {E E' : Ents} {bl : List (List Int)} {os : List Value} (h : BRs E bl os) (hs : ∀ x ∈ E, x ∈ E') : BRs E' bl os := All2.mono h fun _ _ ⟨n, h1, h2⟩ => ⟨n, h1, h2.mono hs⟩
end Go.Proofs.Ytbhbbnmllokglaa

namespace Go.Proofs.Ytbhbbnmllokglaa
open Go.RowKit
set_option linter.unusedVariables false
set_option maxRecDepth 100000

theorem set_same {α : Type} {l : List α} {j : Nat} {v : α} (h : l[j]? = some v) : l.set j v = l := by
  obtain ⟨hj, rfl⟩ := List.getElem?_eq_some_iff.1 h
  exact List.set_getElem_self hj
theorem befN_le (tts : List (List Int)) (q n : Nat) : (befN tts q n).length ≤ n := by
  unfold befN
  exact Nat.le_trans (List.length_filter_le _ _) (by simp)
theorem take_set_snoc {α : Type} {l : List α} {j : Nat} {v : α} (h : j < l.length) : (l.set j v).take (j + 1) = l.take j ++ [v] := by
  have h2 : j < (l.set j v).length := by simpa using h
  rw [List.take_succ_eq_append_getElem h2, List.getElem_set_self, List.take_set_of_le (Nat.le_refl _)]
theorem zIis : (Try.prog.info? 40).bind (·.zero) = some (.slice none 0 0) := by kernel_rfl
theorem zIntA : (Try.prog.info? 3).bind (·.zero) = some (.int .i64 0) := by kernel_rfl
set_option maxHeartbeats 8000000 in
theorem Before_any (x : AW) (g1 g2 g3 n1 n3 d1 d2 d3 : Nat) (A : Option Addr) (k c : Nat) (ss : List St) (y : AW) (w0 w : World) (m E0 E2 : Ents) (H : Hid (Hp w0 w m)) (HE : Hid (∀ y ∈ E0, y ∈ m)) (WX : Hid (WE E0 x g1 g2 g3 n1 n3 d1 d2 d3)) (hv : Hid (ValidA x)) (b1 : 0 < n1 ∧ n1 ≤ 100) (b3 : 0 < n3 ∧ n3 ≤ 100) (RS_ : Hid (RowIn E2 79 5 (.slice A k c) k (flat St.cells ss))) (HE2 : Hid (∀ y ∈ E2, y ∈ m)) (hk : Hid (ss.length = k)) (hk40 : k ≤ 40) (hy : Hid (runL x ss = some y)) :
    Calls Try.prog 8 #[x.vE g1 g2 g3 n1 n3 d1 d2 d3, .slice A k c] w fun e w' => ∃ (v : Value) (os cur : List Value) (tts bl : List (List Int)) (EO : Ents), e = .returned (.tuple #[v, .int .i64 0]) ∧ tts.length = k ∧ (∀ (i : Nat) (xi : AW) (si : St), runL x (ss.take i) = some xi → ss[i]? = some si → ∃ ys, tts[i]? = some ys ∧ TouchP xi si ys) ∧ bl.length = k ∧ (∀ q, q < k → bl[q]? = some (befP tts q)) ∧ RowV 1 v k os cur ∧ BRs EO bl os ∧ Hp w0 w' (rowE v 22 cur ++ (EO ++ m)) := by
  obtain ⟨mi, hmi⟩ := iSlE
  have MI := Lib.hid hmi
  clear hmi
  go_enter Try.func8, Try.ntmps8
  go_wp2_with (first
      | go_skip
      | ((with_reducible refine isBox ?_); refine bxA (t := 25) H ?_; clear H; intro b2 _ H)
      | ((with_reducible refine isLoad ?_); refine ldA H ?_ (hT := by first | exact rWld | exact rStp) (hm := by (repeat (first | exact List.Mem.head _ | refine List.Mem.tail _ ?_ | refine List.mem_append_right _ ?_ | assumption)))))
  go_at_call 22
  refine Calls.mono (Things_any x g1 g2 g3 n1 n3 d1 d2 d3 A k c ss y w0 _ _ E0 E2 H (Lib.hid (fun z hz => .tail _ (HE.out z hz))) WX hv b1 b3 RS_ (Lib.hid (fun z hz => .tail _ (HE2.out z hz))) hk hk40 hy) ?_
  rintro _ _ ⟨vT, vs, curT, tts, EN, rfl, hvl, hRT, hTR, hTT, h4⟩
  obtain ⟨BT, cT, rfl, _⟩ := hRT.shape
  obtain ⟨MT, hMT⟩ : ∃ M, M = rowE (.slice BT k cT) 22 curT ++ (EN ++ ((b2, 25, [.int .i64 x.slots, .slice (some ⟨g1, 0, none⟩) n1 d1, .slice (some ⟨g2, 0, none⟩) n1 d2, .slice (some ⟨g3, 0, none⟩) n3 d3]) :: m)) := ⟨_, rfl⟩
  have HM1 : Hid (∀ z ∈ rowE (.slice BT k cT) 22 curT, z ∈ MT) := Lib.hid fun z hz => by rw [hMT]; exact List.mem_append_left _ hz
  have HM2 : Hid (∀ z ∈ EN, z ∈ MT) := Lib.hid fun z hz => by rw [hMT]; exact List.mem_append_right _ (List.mem_append_left _ hz)
  have HM3 : Hid (m.Sublist MT) := Lib.hid (by rw [hMT]; exact ((List.Sublist.cons _ (List.Sublist.refl _)).trans (List.sublist_append_right _ _)).trans (List.sublist_append_right _ _))
  rw [← hMT] at h4
  replace H := Lib.hid h4
  have RT := Lib.hid hRT
  have TR := Lib.hid hTR
  have TTL := Lib.hid (hTR.1.trans hvl)
  have TT := Lib.hid hTT
  clear h4 hRT hTR hTT hMT
  go_wp2_with (first
      | go_skip
      | ((with_reducible refine isAlloc ?_); refine alA H ?_ (hz := zIis); clear H; intro b6 _ H)
      | ((with_reducible refine isStore ?_); refine st1A (v := .slice BT k cT) H ?_ (hT := sIis); clear H; intro _ H)
      | ((with_reducible refine isMk ?_); refine mkA 22 (.slice none 0 0) k H ?_ (exec_mk rfl rfl rfl Try.underlying40 MI.out.1 MI.out.2.1 MI.out.2.2.1 MI.out.2.2.2 rfl (by omega)); clear H; intro bo _ H))
  go_loopw [25] (fun i_ wr => ∃ (kk : Nat) (os : List Value) (bl : List (List Int)) (EO : Ents), i_ = .int .i64 kk ∧ kk ≤ k ∧ os.length = k ∧ bl.length = kk ∧ Hid (BRs EO bl (os.take kk)) ∧ Hid (∀ q, kk ≤ q → q < k → os[q]? = some (.slice none 0 0)) ∧ Hid (∀ q, q < kk → bl[q]? = some (befP tts q)) ∧ Hid (Hp w0 wr ((bo, 22, os) :: (b6, 40, [.slice BT k cT]) :: (EO ++ MT)))) (fun i_ _ => k - (intOf i_).toNat)
  case atStart => exact ⟨0, List.replicate k (.slice none 0 0), [], [], rfl, by omega, by simp, rfl, Lib.hid (by rw [List.take_zero]; exact All2.nil), Lib.hid (fun q _ hq => by rw [List.getElem?_replicate, if_pos hq]), Lib.hid (fun q hq => by omega), H⟩
  case round =>
    clear H
    obtain ⟨kk, os, bl, EO, rfl, hkk, hol, hbl, BR, NI, BB, H⟩ := hrel
    by_cases hlt : kk < k
    · have hnk := NI.out kk (Nat.le_refl _) hlt
      go_wp2_with (first
          | go_skip
          | ((with_reducible refine isAlloc ?_); refine alA H ?_ (hz := zIntA); clear H; intro b9 _ H)
          | ((with_reducible refine isStore ?_); refine st1A (v := .int .i64 kk) H ?_ (hT := sIntA); clear H; intro _ H)
          | ((with_reducible refine isLoad ?_); refine ld1A H ?_ (hT := kIntA)))
      go_loopw [29] (fun i_ wr => ∃ (i : Nat) (v : Value) (cur : List Value), i_ = .int .i64 i ∧ i ≤ kk ∧ Hid (RowV 1 v (befN tts kk i).length (((befN tts kk i).map fun i : Nat => (i : Int)).map (Value.int .i64)) cur) ∧ Hid (Hp w0 wr ((b9, 3, [.int .i64 kk]) :: (bo, 22, os.set kk v) :: (b6, 40, [.slice BT k cT]) :: (rowE v 3 cur ++ (EO ++ MT))))) (fun i_ _ => kk - (intOf i_).toNat)
      case atStart => exact ⟨0, .slice none 0 0, [], rfl, by omega, Lib.hid (RowV.nil 1), by rw [set_same hnk]; exact H⟩
      case round =>
        clear H
        obtain ⟨i, v, cur, rfl, hi, R, H⟩ := hrel
        by_cases hlt2 : i < kk
        · have htl := TTL.out
          obtain ⟨xs, hxs⟩ : ∃ xs, tts[i]? = some xs := ⟨_, List.getElem?_eq_getElem (by omega)⟩
          obtain ⟨ys, hys⟩ : ∃ ys, tts[kk]? = some ys := ⟨_, List.getElem?_eq_getElem (by omega)⟩
          obtain ⟨vx, hvx, nx, hnx, hRX⟩ := TR.out.at_ hxs
          obtain ⟨gT, cT', e1⟩ := RT.out.someI (by intro e; rw [e] at hvl; simp at hvl; omega)
          obtain ⟨Bx, cx, rfl, _⟩ := hRX.shape
          have XC := (RowIn.cells_ (E := MT) (by rw [← e1]; exact ⟨curT, RT.out, HM1.out⟩) (H.out.hld fun z hz => .tail _ (.tail _ (.tail _ (List.mem_append_right _ (List.mem_append_right _ hz)))))).2.2.2 i _ hvx
          cases e1
          have X := Lib.hid XC
          have RX := Lib.hid hRX
          have HXS := Lib.hid hxs
          have HYS := Lib.hid hys
          clear XC hRX hxs hys hvx hnk
          have K : Hid (BefK ((b9, 3, [.int .i64 kk]) :: (bo, 22, os.set kk v) :: (b6, 40, [.slice (some ⟨gT, 0, none⟩) k cT]) :: (rowE v 3 cur ++ (EO ++ MT))) b6 b9 kk (.slice (some ⟨gT, 0, none⟩) k cT) k vs curT EN tts) := Lib.hid ⟨.tail _ (.tail _ (.head _)), .head _, RT.out, fun z hz => .tail _ (.tail _ (.tail _ (List.mem_append_right _ (List.mem_append_right _ (HM1.out z hz))))), TR.out, fun z hz => .tail _ (.tail _ (.tail _ (List.mem_append_right _ (List.mem_append_right _ (HM2.out z hz))))), hlt⟩
          have hi2 : i < k := by omega
          go_wp2_with (first
              | go_skip
              | ((with_reducible refine isLoad ?_); first | (refine ld1A H ?_ (hT := kIis)) | (refine ld1X X ?_ (hT := kInts))))
          go_at_call 23
          refine Calls.mono (contF_any w0 _ _ b6 b9 kk _ k vs curT EN EN tts ys xs _ nx H K HYS RX (Lib.hid K.out.en) (by omega)) ?_
          rintro _ _ ⟨rfl, h2⟩
          replace H := Lib.hid h2
          clear h2 X
          have hgi : tts.getD i [] = xs := by rw [List.getD_eq_getElem?_getD, HXS.out]; rfl
          have hgk : tts.getD kk [] = ys := by rw [List.getD_eq_getElem?_getD, HYS.out]; rfl
          by_cases hm : ∃ z ∈ xs, z ∈ ys
          · have hd : decide (∃ z ∈ xs, z ∈ ys) = true := decide_eq_true hm
            have hbn := befN_le tts kk i
            have hbs : befN tts kk (i + 1) = befN tts kk i ++ [i] := by rw [befN_succ, hgi, hgk, if_pos hm]
            go_wp2_with (first
                | go_skip)
            refine wp_region_Y 10 [.c (.slice (some ⟨bo, 0, none⟩) k k), .c (.int .i64 kk), .c (.slice (some ⟨bo, 0, none⟩) k k), .c (.int .i64 kk), .c (.pointer (some ⟨bo, kk, none⟩)), .c (v), .c (.int .i64 i), .a, .y, .c (.pointer (some ⟨bo, kk, none⟩))] ((b9, 3, [.int .i64 kk]) :: (bo, 22, os.set kk v) :: (b6, 40, [.slice (some ⟨gT, 0, none⟩) k cT]) :: (EO ++ MT)) H (by (repeat (first | exact List.Sublist.refl _ | refine List.Sublist.cons_cons _ ?_ | refine List.Sublist.append_left ?_ _ | refine List.Sublist.trans ?_ (List.sublist_append_right _ _) | refine List.Sublist.cons _ ?_))) (by kernel_rfl) (by kernel_rfl) (by kernel_rfl) ?_
            simp only [List.take_succ_cons, List.take_zero, List.drop_succ_cons, List.drop_zero]
            refine wpY_c (by rfl) (by (first | exact wanted_none rfl | exact wanted_some rfl rfl)) (by intro W _; first | (go_simp; rfl) | (go_simp; done) | (trace_state; fail)) ?_
            (simp only [Act.put, List.setIfInBounds_toArray, List.set_cons_succ, List.set_cons_zero])
            refine wpY_load1 (by rfl) (by rfl) (by (first | exact wanted_none rfl | exact wanted_some rfl rfl)) kIntA (by rfl) (by (repeat (first | exact List.Mem.head _ | refine List.Mem.tail _ ?_ | refine List.mem_append_right _ ?_ | assumption))) (by rfl) ?_
            (simp only [Act.put, List.setIfInBounds_toArray, List.set_cons_succ, List.set_cons_zero])
            refine wpY_c (by rfl) (by (first | exact wanted_none rfl | exact wanted_some rfl rfl)) (by intro W _; first | (go_simp; rfl) | (go_simp; done) | (trace_state; fail)) ?_
            (simp only [Act.put, List.setIfInBounds_toArray, List.set_cons_succ, List.set_cons_zero])
            refine wpY_load1 (by rfl) (by rfl) (by (first | exact wanted_none rfl | exact wanted_some rfl rfl)) kIntA (by rfl) (by (repeat (first | exact List.Mem.head _ | refine List.Mem.tail _ ?_ | refine List.mem_append_right _ ?_ | assumption))) (by rfl) ?_
            (simp only [Act.put, List.setIfInBounds_toArray, List.set_cons_succ, List.set_cons_zero])
            refine wpY_c (by rfl) (by (first | exact wanted_none rfl | exact wanted_some rfl rfl)) (by intro W _; first | (go_simp; rfl) | (go_simp; done) | (trace_state; fail)) ?_
            (simp only [Act.put, List.setIfInBounds_toArray, List.set_cons_succ, List.set_cons_zero])
            refine wpY_loadX (by rfl) (by rfl) (by (first | exact wanted_none rfl | exact wanted_some rfl rfl)) kInts (by rfl) (by intro W HW; rw [(HW.out.blk (bo, 22, os.set kk v) (by simp)).2.cell]; have := List.getElem?_set_self (a := v) (show kk < os.length by omega); simpa using this) ?_
            (simp only [Act.put, List.setIfInBounds_toArray, List.set_cons_succ, List.set_cons_zero])
            refine wpY_c (by rfl) (by (first | exact wanted_none rfl | exact wanted_some rfl rfl)) (by intro W _; first | (go_simp; rfl) | (go_simp; done) | (trace_state; fail)) ?_
            (simp only [Act.put, List.setIfInBounds_toArray, List.set_cons_succ, List.set_cons_zero])
            refine wpY_V 3 ([.int .i64 i]) 1 (by rfl) (by rfl) (by intro W; kernel_rfl) ?_
            intro gz
            (simp only [Act.put, List.setIfInBounds_toArray, List.set_cons_succ, List.set_cons_zero])
            refine wpY_app [(gz, 3, [.int .i64 i]), (b9, 3, [.int .i64 kk]), (bo, 22, os.set kk v), (b6, 40, [.slice (some ⟨gT, 0, none⟩) k cT])] (EO ++ MT) (by rfl) (by (first | exact wanted_none rfl | exact wanted_some rfl rfl)) R iInt1 (by decide) Try.underlying22 (by rfl) (by rfl) (by rfl) (.head _) (by rfl) (by rfl) (by omega) (by unfold maxLen; omega) (by omega) (by rfl) (by intro z hz; simp only [List.cons_append, List.nil_append, List.mem_cons] at hz ⊢; rcases hz with h | h | h | h <;> simp [h]) (fun v3 cur3 R3 => ?_)
            (simp only [Act.put, List.setIfInBounds_toArray, List.set_cons_succ, List.set_cons_zero])
            refine wpY_c (by rfl) (by (first | exact wanted_none rfl | exact wanted_some rfl rfl)) (by intro W _; first | (go_simp; rfl) | (go_simp; done) | (trace_state; fail)) ?_
            (simp only [Act.put, List.setIfInBounds_toArray, List.set_cons_succ, List.set_cons_zero])
            refine wpY_nil ?_
            clear H
            intro _ H
            simp only [List.cons_append, List.nil_append] at H
            obtain ⟨nn, hnn⟩ : ∃ nn, (befN tts kk i).length + 1 = nn := ⟨_, rfl⟩
            rw [hnn] at R3
            obtain ⟨B3, c3, rfl, _⟩ := R3.out.shape
            go_wp2_with (first
                | go_skip
                | ((with_reducible refine isStore ?_); refine st1A (v := .slice B3 nn c3) (k := kk) (ds := os.set kk (.slice B3 nn c3)) H ?_ (hT := sInts) (hc := List.set_set ..) (hk := by simp; omega); clear H; intro _ H))
            have R' : Hid (RowV 1 (.slice B3 nn c3) (befN tts kk (i + 1)).length (((befN tts kk (i + 1)).map fun i : Nat => (i : Int)).map (Value.int .i64)) cur3) := Lib.hid (by
              rw [hbs, List.length_append, List.length_singleton, hnn, List.map_append, List.map_append]
              exact R3.out)
            go_roundw
            case rel => exact ⟨i + 1, _, cur3, by go_num, by omega, R', Lib.hid H.out.drop⟩
            case measure => simp [intOf]; omega
          · have hd : decide (∃ z ∈ xs, z ∈ ys) = false := decide_eq_false hm
            have hbs : befN tts kk (i + 1) = befN tts kk i := by rw [befN_succ, hgi, hgk, if_neg hm, List.append_nil]
            go_wp2_with (first
                | go_skip)
            go_roundw
            case rel => exact ⟨i + 1, v, cur, by go_num, by omega, by rw [hbs]; exact R, H⟩
            case measure => simp [intOf]; omega
        · obtain rfl : i = kk := by omega
          go_wp2_with (first
              | go_skip)
          have hbn := befN_le tts i i
          have BR' : Hid (BRs (rowE v 3 cur ++ EO) (bl ++ [befP tts i]) ((os.set i v).take (i + 1))) := Lib.hid (by
            rw [take_set_snoc (by omega)]
            exact (BR.out.mono (fun z hz => List.mem_append_right _ hz)).snoc ⟨_, by omega, R.out.rowinA.mono (fun z hz => List.mem_append_left _ hz)⟩)
          have NI' : Hid (∀ q, i + 1 ≤ q → q < k → (os.set i v)[q]? = some (.slice none 0 0)) := Lib.hid fun q h1 h2 => by
            rw [List.getElem?_set_ne (by omega)]
            exact NI.out q (by omega) h2
          have BB' : Hid (∀ q, q < i + 1 → (bl ++ [befP tts i])[q]? = some (befP tts q)) := Lib.hid fun q h1 => by
            by_cases hq : q < i
            · rw [List.getElem?_append_left (by omega)]
              exact BB.out q hq
            · obtain rfl : q = i := by omega
              rw [List.getElem?_append_right (by omega), hbl, Nat.sub_self]
              rfl
          replace H := Lib.hid H.out.drop
          rw [← List.append_assoc] at H
          go_roundw
          case rel => exact ⟨i + 1, os.set i v, bl ++ [befP tts i], rowE v 3 cur ++ EO, by go_num, by omega, by simpa using hol, by simp [hbl], BR', NI', BB', H⟩
          case measure => simp [intOf]; omega
    · obtain rfl : kk = k := by omega
      go_wp2_with (first
          | go_skip)
      go_ret2
      refine ⟨_, os, os, tts, bl, EO, rfl, TTL.out, TT.out, hbl, BB.out, ⟨by simp [hol], .inr ⟨bo, kk, rfl, Nat.le_refl _, by unfold maxLen; omega, by simp [hol], List.take_of_length_le (by simp [hol])⟩⟩, ?_, H.out.sub ?_⟩
      · have := BR.out
        rwa [List.take_of_length_le (by omega)] at this
      · exact List.Sublist.cons_cons _ (List.Sublist.cons _ (List.Sublist.append_left HM3.out _))
end Go.Proofs.Ytbhbbnmllokglaa

namespace Go.Proofs.Ytbhbbnmllokglaa
open Go.RowKit
set_option linter.unusedVariables false

/-- The order in which k and k + 1 have changed places. -/
def swapP (n k : Nat) : List Int := (((List.range n).map fun i : Nat => (i : Int)).set k ((k : Int) + 1)).set (k + 1) k
theorem swapP_len (n k : Nat) : (swapP n k).length = n := by simp [swapP]
theorem swapP_at {n k i : Nat} (hk : k + 1 < n) (hi : i < n) : (swapP n k)[i]? = some (if i = k then (k : Int) + 1 else if i = k + 1 then (k : Int) else (i : Int)) := by
  unfold swapP
  by_cases h1 : i = k + 1
  · subst h1
    rw [if_neg (by omega), if_pos rfl, List.getElem?_set_self (by simp; omega)]
  · rw [List.getElem?_set_ne (by omega)]
    by_cases h2 : i = k
    · subst h2
      rw [if_pos rfl, List.getElem?_set_self (by simp; omega)]
    · rw [List.getElem?_set_ne (by omega), if_neg h2, if_neg h1, List.getElem?_map, List.getElem?_range hi]
      rfl
theorem mem_takeI {α : Type} {l : List α} {i : Nat} {x : α} : x ∈ l.take i ↔ ∃ j, j < i ∧ l[j]? = some x := by
  rw [List.mem_iff_getElem?]
  constructor
  · rintro ⟨j, hj⟩
    rw [List.getElem?_take] at hj
    split at hj
    · exact ⟨j, by assumption, hj⟩
    · cases hj
  · rintro ⟨j, hj, h⟩
    exact ⟨j, by rw [List.getElem?_take, if_pos hj]; exact h⟩
theorem swap_mem {n k i : Nat} (hk : k + 1 < n) (hi : i ≤ n) (x : Int) : x ∈ (swapP n k).take i ↔ if i = k + 1 then (0 ≤ x ∧ x < k) ∨ x = k + 1 else 0 ≤ x ∧ x < i := by
  rw [mem_takeI]
  constructor
  · rintro ⟨j, hj, h⟩
    rw [swapP_at hk (by omega)] at h
    cases h
    by_cases h1 : i = k + 1
    · rw [if_pos h1]
      by_cases h2 : j = k
      · rw [if_pos h2]; exact .inr rfl
      · rw [if_neg h2, if_neg (by omega)]; exact .inl ⟨by omega, by omega⟩
    · rw [if_neg h1]
      by_cases h2 : j = k
      · rw [if_pos h2]; omega
      · rw [if_neg h2]
        by_cases h3 : j = k + 1
        · rw [if_pos h3]; omega
        · rw [if_neg h3]; omega
  · intro h
    by_cases h1 : i = k + 1
    · rw [if_pos h1] at h
      rcases h with ⟨h2, h3⟩ | h2
      · obtain ⟨j, rfl⟩ := Int.eq_ofNat_of_zero_le h2
        exact ⟨j, by omega, by rw [swapP_at hk (by omega), if_neg (by omega), if_neg (by omega)]⟩
      · exact ⟨k, by omega, by rw [swapP_at hk (by omega), if_pos rfl, h2]⟩
    · rw [if_neg h1] at h
      obtain ⟨j, rfl⟩ := Int.eq_ofNat_of_zero_le h.1
      have hj : j < i := by omega
      by_cases h2 : j = k
      · subst h2
        exact ⟨j + 1, by omega, by rw [swapP_at hk (by omega), if_neg (by omega), if_pos rfl]⟩
      · by_cases h3 : j = k + 1
        · subst h3
          exact ⟨k, by omega, by rw [swapP_at hk (by omega), if_pos rfl]; simp⟩
        · exact ⟨j, hj, by rw [swapP_at hk (by omega), if_neg h2, if_neg h3]⟩
/-- Earlier steps only. -/
def EarlyB (bl : List (List Int)) : Prop := ∀ (q : Nat) (l : List Int), bl[q]? = some l → ∀ x ∈ l, 0 ≤ x ∧ x < q
theorem early_getD {bl : List (List Int)} (h : EarlyB bl) {q : Nat} {x : Int} (hx : x ∈ bl.getD q []) : 0 ≤ x ∧ x < q := by
  rw [List.getD_eq_getElem?_getD] at hx
  cases e : bl[q]? with
  | none => rw [e] at hx; cases hx
  | some l => rw [e] at hx; exact h q l e x hx
theorem right_end {bl : List (List Int)} {n k : Nat} (hn : bl.length = n) (he : EarlyB bl) (hk : k + 1 < n) : ∀ (d i : Nat), d + i = n → k + 2 ≤ i → rightFrom bl ((swapP n k).take i) ((swapP n k).drop i) = true
  | 0, i, hd, hi => by
    rw [List.drop_eq_nil_of_le (by rw [swapP_len]; omega)]
    rfl
  | d + 1, i, hd, hi => by
    have hat := swapP_at hk (show i < n by omega)
    rw [if_neg (by omega), if_neg (by omega)] at hat
    rw [rightFrom_step hat, if_neg, if_pos]
    · exact right_end hn he hk d (i + 1) (by omega) (by omega)
    · intro x hx
      rw [swap_mem hk (by omega), if_neg (by omega)]
      have := early_getD he hx
      simpa using this
    · rw [swap_mem hk (by omega), if_neg (by omega)]
      omega
theorem right_begin {bl : List (List Int)} {n k : Nat} (hn : bl.length = n) (he : EarlyB bl) (hk : k + 1 < n) : ∀ (d i : Nat), d + i = k → rightFrom bl ((swapP n k).take i) ((swapP n k).drop i) = rightFrom bl ((swapP n k).take k) ((swapP n k).drop k)
  | 0, i, hd => by rw [show i = k by omega]
  | d + 1, i, hd => by
    have hat := swapP_at hk (show i < n by omega)
    rw [if_neg (by omega), if_neg (by omega)] at hat
    rw [rightFrom_step hat, if_neg, if_pos]
    · exact right_begin hn he hk d (i + 1) (by omega)
    · intro x hx
      rw [swap_mem hk (by omega), if_neg (by omega)]
      have := early_getD he hx
      simpa using this
    · rw [swap_mem hk (by omega), if_neg (by omega)]
      omega
/-- Neighbours may change places just if the one is not before the other. -/
theorem right_swap {bl : List (List Int)} {n k : Nat} (hn : bl.length = n) (he : EarlyB bl) (hk : k + 1 < n) : rightFrom bl [] (swapP n k) = decide ((k : Int) ∉ bl.getD (k + 1) []) := by
  have h0 := right_begin hn he hk k 0 (by omega)
  rw [List.take_zero, List.drop_zero] at h0
  rw [h0]
  have hat := swapP_at hk (show k < n by omega)
  rw [if_pos rfl] at hat
  rw [rightFrom_step hat, if_neg (by rw [swap_mem hk (by omega), if_neg (by omega)]; omega), show ((k : Int) + 1).toNat = k + 1 by omega]
  by_cases hm : (k : Int) ∈ bl.getD (k + 1) []
  · rw [if_neg, decide_eq_false (by simpa using hm)]
    intro h
    have := h _ hm
    rw [swap_mem hk (by omega), if_neg (by omega)] at this
    omega
  · rw [decide_eq_true hm, if_pos]
    · have hat2 := swapP_at hk (show k + 1 < n by omega)
      rw [if_neg (by omega), if_pos rfl] at hat2
      rw [rightFrom_step hat2, if_neg, if_pos]
      · exact right_end hn he hk (n - (k + 2)) (k + 2) (by omega) (by omega)
      · intro x hx
        rw [swap_mem hk (by omega), if_pos rfl]
        have := early_getD he hx
        left
        simpa using this
      · rw [swap_mem hk (by omega), if_pos rfl]
        omega
    · intro x hx
      rw [swap_mem hk (by omega), if_neg (by omega)]
      have := early_getD he hx
      have : x ≠ k := fun e => hm (e ▸ hx)
      omega
end Go.Proofs.Ytbhbbnmllokglaa

namespace Go.Proofs.Ytbhbbnmllokglaa
open Go.RowKit
set_option linter.unusedVariables false
set_option maxRecDepth 100000

theorem fillI {k i : Nat} (h : i < k) : (((List.range i).map fun i : Nat => (i : Int)).map (Value.int .i64) ++ List.replicate (k - i) (Value.int .i64 0)).set i (Value.int .i64 i) = ((List.range (i + 1)).map fun i : Nat => (i : Int)).map (Value.int .i64) ++ List.replicate (k - (i + 1)) (Value.int .i64 0) := by
  rw [List.set_append_right _ _ (by simp), List.range_succ]
  have e : k - i = (k - (i + 1)) + 1 := by omega
  rw [e, List.replicate_succ]
  simp
theorem iIntE : ∃ i, Try.prog.info? 3 = some i ∧ i.zero = some (.int .i64 0) ∧ i.size = 1 ∧ i.bytes ≤ 100 := by
  obtain ⟨i, z, h1, h2, h3, h4, _⟩ := iInt1.h
  have hz := zIntA
  rw [h1] at hz
  exact ⟨i, h1, hz, h3, by omega⟩
theorem befP_early (tts bl : List (List Int)) {n : Nat} (hl : bl.length = n) (h : ∀ q, q < n → bl[q]? = some (befP tts q)) : EarlyB bl := fun q l hq x hx => by
  have hlt := lt_of_at hq
  have e := Option.some.inj (hq.symm.trans (h q (by omega)))
  subst e
  unfold befP befN at hx
  obtain ⟨i, hi, rfl⟩ := List.mem_map.1 hx
  have := List.mem_range.1 (List.mem_filter.1 hi).1
  omega
theorem befP_valid (tts bl : List (List Int)) {n : Nat} (hl : bl.length = n) (hn : n ≤ 40) (h : ∀ q, q < n → bl[q]? = some (befP tts q)) : Valid bl := by
  refine ⟨by omega, fun k l hk => ?_⟩
  have hlt := lt_of_at hk
  have e := Option.some.inj (hk.symm.trans (h k (by omega)))
  refine ⟨fun i x hx => befP_early tts bl hl h k l hk x (List.mem_of_getElem? hx), fun i a b ha hb => ?_⟩
  have hs : l.Pairwise (· < ·) := by
    rw [e]
    unfold befP befN
    rw [List.pairwise_map]
    exact (List.pairwise_lt_range.filter _).imp fun h => by omega
  obtain ⟨h1, rfl⟩ := List.getElem?_eq_some_iff.1 ha
  obtain ⟨h2, rfl⟩ := List.getElem?_eq_some_iff.1 hb
  exact List.pairwise_iff_getElem.1 hs i (i + 1) h1 h2 (by omega)
/-- What Before answers, read as an argument. -/
theorem BRs.rii {E : Ents} {bl : List (List Int)} {os cur : List Value} {k : Nat} {B : Option Addr} {c : Nat} (h : BRs E bl os) (R : RowV 1 (.slice B k c) k os cur) {w : World} (hE : Hld E w) (hF : Hld (rowE (.slice B k c) 22 cur) w) : RII w B bl := by
  intro hp
  have hol : os.length = k := by simpa using R.len
  obtain ⟨g, c', e⟩ := R.someI (by intro e; have := h.1; rw [e] at this; simp at this; simp [this] at hp)
  cases e
  obtain ⟨a1, a2, a3, a4⟩ := RowIn.cells_ ⟨cur, R, fun x hx => hx⟩ hF
  refine ⟨g, 0, rfl, a1, fun j l hj => ?_⟩
  obtain ⟨v, hv, n, hn, hr⟩ := h.at_ hj
  obtain ⟨B2, c2, rfl, _⟩ := hr.shape
  obtain ⟨r1, r2⟩ := hr.ri_ hE
  exact ⟨B2, c2, by rw [Nat.zero_add, a4 j _ hv, r2], r1⟩
set_option maxHeartbeats 8000000 in
theorem OrderMust_any (A B D : Option Addr) (la ca lb cb ld cd : Nat) (xs ys zs : List Int) (kz : Int) (w : World) (hi : IntArg w A la ca xs) (hj : IntArg w B lb cb ys) (hl : IntArg w D ld cd zs) (hk1 : -9223372036854775808 ≤ kz) (hk2 : kz ≤ 9223372036854775807) :
    Calls Try.prog 3 #[.slice A la ca, .slice B lb cb, .slice D ld cd, .int .i64 kz] w fun e w' => e = .returned (.bool true) ∧ Below w.heap.size w w' := by
  have H := Lib.hid (Hp.start (w := w) trivial)
  have IB := Lib.hid hj
  have ID := Lib.hid hl
  have IA := Lib.hid hi
  obtain ⟨mi, hmi⟩ := iIntE
  have MI := Lib.hid hmi
  clear hi hj hl hmi
  go_enter Try.func3, Try.ntmps3
  go_wp2_with (first
      | go_skip
      | ((with_reducible refine isLoad ?_); refine ldA H ?_ (hT := by first | exact rWld | exact rStp) (hm := by (repeat (first | exact List.Mem.head _ | refine List.Mem.tail _ ?_ | refine List.mem_append_right _ ?_ | assumption))))
      | ((with_reducible refine isAlloc ?_); refine alA H ?_ (hz := zWld); clear H; intro b9 _ H)
      | ((with_reducible refine isStore ?_); refine stA H ?_ (hT := by first | exact rWld | exact rStp) (hu := by (repeat (first | apply Upd.head | apply Upd.tail | apply Upd.appA | assumption))); clear H; intro _ H))
  go_at_call 6
  refine (Small_any A la ca xs _ IA.out).mono ?_
  rintro _ w1 ⟨na, np, ns, P1, P2, P3, e1, e2, e3, rfl, hna, hnp, hns, _, hb⟩
  replace H := Lib.hid (H.out.go hb)
  replace IB := Lib.hid (IB.out.below hb)
  clear hb
  go_wp2_with (first
      | go_skip
      | ((with_reducible refine isLoad ?_); refine ldA H ?_ (hT := by first | exact rWld | exact rStp) (hm := by (repeat (first | exact List.Mem.head _ | refine List.Mem.tail _ ?_ | refine List.mem_append_right _ ?_ | assumption))))
      | ((with_reducible refine isAlloc ?_); refine alA H ?_ (hz := zWld); clear H; intro b9 _ H)
      | ((with_reducible refine isStore ?_); refine stA H ?_ (hT := by first | exact rWld | exact rStp) (hu := by (repeat (first | apply Upd.head | apply Upd.tail | apply Upd.appA | assumption))); clear H; intro _ H))
  go_at_call 5
  refine (World_any na np ns P1 P2 P3 e1 e2 e3 B lb cb ys _ IB.out hna hnp hns).mono ?_
  rintro _ w2 ⟨x, g1, g2, g3, d1, d2, d3, rfl, ho, hv, hxs, hb⟩
  obtain ⟨E0, hW, h2⟩ := H.out.madeW hb (Nat.le_refl _) ho
  replace H := Lib.hid h2
  have WX := Lib.hid hW
  have VX := Lib.hid hv
  clear ho hW h2 hb hv hxs IB
  go_wp2_with (first
      | go_skip
      | ((with_reducible refine isLoad ?_); refine ldA H ?_ (hT := by first | exact rWld | exact rStp) (hm := by (repeat (first | exact List.Mem.head _ | refine List.Mem.tail _ ?_ | refine List.mem_append_right _ ?_ | assumption))))
      | ((with_reducible refine isAlloc ?_); refine alA H ?_ (hz := zWld); clear H; intro b9 _ H)
      | ((with_reducible refine isStore ?_); refine stA H ?_ (hT := by first | exact rWld | exact rStp) (hu := by (repeat (first | apply Upd.head | apply Upd.tail | apply Upd.appA | assumption))); clear H; intro _ H))
  go_at_call 7
  refine Calls.mono (Walk_any x g1 g2 g3 np na d1 d2 d3 D ld cd zs w _ _ E0 H (Lib.hid (fun z hz => by simp [hz])) WX VX (by omega) (by omega) ID) ?_
  rintro _ _ ⟨v, ss, cur, y, h1, h2, h3, f1, f2, f3, E1, EY, rfl, hrl, hsl, _, _, _, hR, _, h4⟩
  obtain ⟨BS, cs, rfl, _⟩ := hR.shape
  obtain ⟨k, hk⟩ : ∃ k, ss.length = k := ⟨_, rfl⟩
  rw [hk] at hR h4 hsl ⊢
  replace H := Lib.hid h4
  have RS_ := Lib.hid hR
  have HK := Lib.hid hk
  have RL := Lib.hid hrl
  clear h4 hR hk hrl
  go_wp2_with (first
      | go_skip
      | ((with_reducible refine isLoad ?_); refine ldA H ?_ (hT := by first | exact rWld | exact rStp) (hm := by (repeat (first | exact List.Mem.head _ | refine List.Mem.tail _ ?_ | refine List.mem_append_right _ ?_ | assumption))))
      | ((with_reducible refine isAlloc ?_); refine alA H ?_ (hz := zWld); clear H; intro b11 _ H)
      | ((with_reducible refine isStore ?_); refine stA H ?_ (hT := by first | exact rWld | exact rStp) (hu := by (repeat (first | apply Upd.head | apply Upd.tail | apply Upd.appA | assumption))); clear H; intro _ H))
  go_at_call 8
  refine Calls.mono (Before_any x g1 g2 g3 np na d1 d2 d3 BS k cs ss y w _ _ E0 _ H (Lib.hid (fun z hz => by simp [hz])) WX VX (by omega) (by omega) (Lib.hid RS_.out.rowinA) (Lib.hid (fun z hz => .tail _ (List.mem_append_left _ hz))) HK (by omega) RL) ?_
  rintro _ _ ⟨v, os, cur2, tts, bl, EO, rfl, _, _, hbl, hbb, hR2, hBR, h4⟩
  obtain ⟨BB, cb2, rfl, _⟩ := hR2.shape
  replace H := Lib.hid h4
  have R2 := Lib.hid hR2
  have BR := Lib.hid hBR
  have HBL := Lib.hid hbl
  have HBB := Lib.hid hbb
  clear h4 hR2 hBR hbl hbb
  go_wp2_with (first
      | go_skip
      | ((with_reducible refine isLoad ?_); refine ldA H ?_ (hT := by first | exact rWld | exact rStp) (hm := by (repeat (first | exact List.Mem.head _ | refine List.Mem.tail _ ?_ | refine List.mem_append_right _ ?_ | assumption))))
      | ((with_reducible refine isAlloc ?_); refine alA H ?_ (hz := zWld); clear H; intro b11 _ H)
      | ((with_reducible refine isStore ?_); refine stA H ?_ (hT := by first | exact rWld | exact rStp) (hu := by (repeat (first | apply Upd.head | apply Upd.tail | apply Upd.appA | assumption))); clear H; intro _ H))
  go_at_call 9
  refine (ordered_ok _).mono ?_
  rintro _ _ ⟨rfl, hb⟩
  replace H := Lib.hid (H.out.go hb)
  clear hb
  by_cases hk2' : k < 2
  · have hd : decide ((k : Int) < 2) = true := decide_eq_true (by omega)
    go_wp2_with (first
        | go_skip)
    go_ret
    exact ⟨rfl, H.out.bel⟩
  · have hd : decide ((k : Int) < 2) = false := decide_eq_false (by omega)
    have hkw : IntKind.i64.wrap ((k : Int) - 1) = (k : Int) - 1 := IntWalk.i64_in _ (by omega)
    go_wp2_with (first
        | go_skip)
    go_at_call 10
    refine (below_any kz ((k : Int) - 1) _ (by omega) hk1 hk2 (by omega)).mono ?_
    rintro _ _ ⟨rfl, rfl⟩
    obtain ⟨q, hq⟩ : ∃ q, kz % ((k : Int) - 1) = q := ⟨_, rfl⟩
    have hq0 : 0 ≤ q := by rw [← hq]; exact Int.emod_nonneg _ (by omega)
    have hq1 : q < (k : Int) - 1 := by rw [← hq]; exact Int.emod_lt_of_pos _ (by omega)
    rw [hq]
    clear hq
    obtain ⟨j, rfl⟩ := Int.eq_ofNat_of_zero_le hq0
    have hjk : j + 1 < k := by omega
    have hjw : IntKind.i64.wrap ((j : Int) + 1) = ((j + 1 : Nat) : Int) := by rw [IntWalk.i64_in _ (by omega)]; omega
    clear hq0 hq1 hd
    go_wp2_with (first
        | go_skip
        | ((with_reducible refine isMk ?_); refine mkA 3 (.int .i64 0) k H ?_ (exec_mk rfl rfl rfl Try.underlying22 MI.out.1 MI.out.2.1 MI.out.2.2.1 MI.out.2.2.2 rfl (by omega)); clear H; intro bp _ H))
    replace H := (show Hid (Hp w _ ((bp, 3, List.replicate k (.int .i64 0)) :: (rowE (.slice BB k cb2) 22 cur2 ++ (EO ++ ((b11, 25, [.int .i64 x.slots, .slice (some ⟨h1, 0, none⟩) np f1, .slice (some ⟨h2, 0, none⟩) np f2, .slice (some ⟨h3, 0, none⟩) na f3]) :: (rowE (.slice BS k cs) 79 cur ++ (E1 ++ ((b9, 25, [.int .i64 x.slots, .slice (some ⟨g1, 0, none⟩) np d1, .slice (some ⟨g2, 0, none⟩) np d2, .slice (some ⟨g3, 0, none⟩) na d3]) :: (E0 ++ []))))))))) from H)
    obtain ⟨LT, hLT⟩ : ∃ L, L = rowE (.slice BB k cb2) 22 cur2 ++ (EO ++ ((b11, 25, [.int .i64 x.slots, .slice (some ⟨h1, 0, none⟩) np f1, .slice (some ⟨h2, 0, none⟩) np f2, .slice (some ⟨h3, 0, none⟩) na f3]) :: (rowE (.slice BS k cs) 79 cur ++ (E1 ++ ((b9, 25, [.int .i64 x.slots, .slice (some ⟨g1, 0, none⟩) np d1, .slice (some ⟨g2, 0, none⟩) np d2, .slice (some ⟨g3, 0, none⟩) na d3]) :: (E0 ++ [])))))) := ⟨_, rfl⟩
    have HL1 : Hid (∀ z ∈ rowE (.slice BB k cb2) 22 cur2, z ∈ LT) := Lib.hid fun z hz => by rw [hLT]; exact List.mem_append_left _ hz
    have HL2 : Hid (∀ z ∈ EO, z ∈ LT) := Lib.hid fun z hz => by rw [hLT]; exact List.mem_append_right _ (List.mem_append_left _ hz)
    rw [← hLT] at H
    clear hLT
    go_loopw [64] (fun i_ wr => ∃ i : Nat, i_ = .int .i64 i ∧ i ≤ k ∧ Hid (Hp w wr ((bp, 3, ((List.range i).map fun i : Nat => (i : Int)).map (Value.int .i64) ++ List.replicate (k - i) (.int .i64 0)) :: LT))) (fun i_ _ => k - (intOf i_).toNat)
    case atStart => exact ⟨0, rfl, by omega, by simpa using H⟩
    case round =>
      clear H
      obtain ⟨i, rfl, hik, H⟩ := hrel
      by_cases hlt : i < k
      · go_wp2_with (first
            | go_skip
            | ((with_reducible refine isStore ?_); refine st1A (v := .int .i64 i) (k := i) (ds := ((List.range (i + 1)).map fun i : Nat => (i : Int)).map (Value.int .i64) ++ List.replicate (k - (i + 1)) (.int .i64 0)) H ?_ (hT := sIntA) (hc := fillI hlt) (hk := by simp; omega); clear H; intro _ H))
        go_roundw
        case rel => exact ⟨i + 1, by go_num, by omega, H⟩
        case measure => simp [intOf]; omega
      · obtain rfl : k = i := by omega
        rw [Nat.sub_self, List.replicate_zero, List.append_nil] at H
        go_wp2_with (first
            | go_skip
            | ((with_reducible refine isStore ?_); (first | (refine st1A (v := .int .i64 ((j + 1 : Nat) : Int)) (k := j) (ds := (((List.range k).map fun i : Nat => (i : Int)).set j ((j : Int) + 1)).map (Value.int .i64)) H ?_ (hT := sIntA) (hc := by rw [List.map_set]; rfl) (hk := by simp; omega)) | (refine st1A (v := .int .i64 j) (k := j + 1) (ds := (swapP k j).map (Value.int .i64)) H ?_ (hT := sIntA) (hc := by unfold swapP; simp only [List.map_set]) (hk := by simp; omega))); clear H; intro _ H))
        have hat : bl[j + 1]? = some (befP tts (j + 1)) := HBB.out _ (by omega)
        have hgd : bl.getD (j + 1) [] = befP tts (j + 1) := by rw [List.getD_eq_getElem?_getD, hat]; rfl
        obtain ⟨gB, cB', eB⟩ := R2.out.someI (by intro e; have := BR.out.1; rw [e] at this; simp at this; have h3 := HBL.out; rw [this] at h3; simp at h3; omega)
        cases eB
        obtain ⟨vx, hvx, nx, hnx, hRX⟩ := BR.out.at_ hat
        obtain ⟨Bx, cx, rfl, _⟩ := hRX.shape
        have XC := Lib.hid fun (W : World) (hW : Hld LT W) => (RowIn.cells_ (E := LT) ⟨cur2, R2.out, HL1.out⟩ hW).2.2.2 (j + 1) _ hvx
        have RX := Lib.hid hRX
        have VB := Lib.hid (befP_valid tts bl HBL.out (by omega) HBB.out)
        have EB := Lib.hid (befP_early tts bl HBL.out HBB.out)
        have hbk : bl.length = k := HBL.out
        obtain ⟨dd, hdd⟩ : ∃ dd, dd = decide ((j : Int) ∈ befP tts (j + 1)) := ⟨_, rfl⟩
        have HDD := Lib.hid hdd
        have hrs : Hid (rightFrom bl [] (swapP k j) = !dd) := Lib.hid (by rw [right_swap HBL.out EB.out (by omega), hgd, hdd]; exact decide_not)
        have hsl2 := swapP_len k j
        obtain ⟨j1, hj1⟩ : ∃ q : Nat, q = j + 1 := ⟨_, rfl⟩
        rw [← hj1] at XC hjw
        have hj1k : j1 < k := by omega
        clear hj1
        clear hat hgd hvx hnx hRX hdd
        refine wp_region_Y 12 [.c (.slice (some ⟨gB, 0, none⟩) k cb2), .c ((.slice (some ⟨bp, 0, none⟩) k k)), .y, .c (.slice (some ⟨gB, 0, none⟩) k cb2), .c (.int .i64 j), .c (.int .i64 j1), .c (.pointer (some ⟨gB, j1, none⟩)), .c (.slice Bx nx cx), .c (.int .i64 j), .y, .c (.bool (!dd)), .c (.bool true)] ((bp, 3, (swapP k j).map (Value.int .i64)) :: LT) H (by (repeat (first | exact List.Sublist.refl _ | refine List.Sublist.cons_cons _ ?_ | refine List.Sublist.append_left ?_ _ | refine List.Sublist.trans ?_ (List.sublist_append_right _ _) | refine List.Sublist.cons _ ?_))) (by kernel_rfl) (by kernel_rfl) (by kernel_rfl) ?_
        simp only [List.take_succ_cons, List.take_zero, List.drop_succ_cons, List.drop_zero]
        refine wpY_c (by rfl) (by (first | exact wanted_none rfl | exact wanted_some rfl rfl)) (by intro W _; first | (go_simp; rfl) | (go_simp; done) | (trace_state; fail)) ?_
        (simp only [Act.put, List.setIfInBounds_toArray, List.set_cons_succ, List.set_cons_zero])
        refine wpY_c (by rfl) (by (first | exact wanted_none rfl | exact wanted_some rfl rfl)) (by intro W _; first | (go_simp; rfl) | (go_simp; done) | (trace_state; fail)) ?_
        (simp only [Act.put, List.setIfInBounds_toArray, List.set_cons_succ, List.set_cons_zero])
        refine wpY_y (by rfl) (by (first | exact wanted_none rfl | exact wanted_some rfl rfl)) (fun G F W HF hG => ?_)
        go_simp
        unfold upY
        have hP : RI W (some ⟨bp, 0, none⟩) (swapP k j) := by
          have h1 : RowV 1 (.slice (some ⟨bp, 0, none⟩) k k) k ((swapP k j).map (Value.int .i64)) ((swapP k j).map (Value.int .i64)) := ⟨by simp [hsl2], .inr ⟨bp, k, rfl, Nat.le_refl _, by unfold maxLen; omega, by simp [hsl2], List.take_of_length_le (by simp [hsl2])⟩⟩
          have h2 : RowIn ((bp, 3, (swapP k j).map (Value.int .i64)) :: []) 3 1 (.slice (some ⟨bp, 0, none⟩) k k) k ((swapP k j).map (Value.int .i64)) := ⟨_, h1, fun x hx => hx⟩
          exact (h2.ri_ (HF.out.hld fun z hz => by rw [List.mem_singleton] at hz; subst hz; exact .head _)).1
        have RB := right_any (some ⟨gB, 0, none⟩) (some ⟨bp, 0, none⟩) cb2 k bl (swapP k j) W (BR.out.rii R2.out (HF.out.hld fun z hz => .tail _ (List.mem_append_left _ (HL2.out z hz))) (HF.out.hld fun z hz => .tail _ (List.mem_append_left _ (HL1.out z hz)))) VB.out hP (by omega) (!dd) hrs
        rw [hbk, hsl2] at RB
        refine Calls.mono RB ?_
        rintro _ W2 ⟨rfl, hb⟩
        refine ⟨_, rfl, hG _ _ _ (HF.out.go hb) (List.Sublist.refl _) ?_⟩
        clear HF hG hb hP RB
        (simp only [Act.put, List.setIfInBounds_toArray, List.set_cons_succ, List.set_cons_zero])
        refine wpY_c (by rfl) (by (first | exact wanted_none rfl | exact wanted_some rfl rfl)) (by intro W _; first | (go_simp; rfl) | (go_simp; done) | (trace_state; fail)) ?_
        (simp only [Act.put, List.setIfInBounds_toArray, List.set_cons_succ, List.set_cons_zero])
        refine wpY_c (by rfl) (by (first | exact wanted_none rfl | exact wanted_some rfl rfl)) (by intro W _; first | (go_simp; rfl) | (go_simp; done) | (trace_state; fail)) ?_
        (simp only [Act.put, List.setIfInBounds_toArray, List.set_cons_succ, List.set_cons_zero])
        refine wpY_c (by rfl) (by (first | exact wanted_none rfl | exact wanted_some rfl rfl)) (by intro W _; first | (go_simp; rfl) | (go_simp; done) | (trace_state; fail)) ?_
        (simp only [Act.put, List.setIfInBounds_toArray, List.set_cons_succ, List.set_cons_zero])
        refine wpY_c (by rfl) (by (first | exact wanted_none rfl | exact wanted_some rfl rfl)) (by intro W _; first | (go_simp; rfl) | (go_simp; done) | (trace_state; fail)) ?_
        (simp only [Act.put, List.setIfInBounds_toArray, List.set_cons_succ, List.set_cons_zero])
        refine wpY_loadX (by rfl) (by rfl) (by (first | exact wanted_none rfl | exact wanted_some rfl rfl)) kInts (by rfl) (by intro W HW; exact XC.out W (HW.out.hld fun z hz => .tail _ hz)) ?_
        (simp only [Act.put, List.setIfInBounds_toArray, List.set_cons_succ, List.set_cons_zero])
        refine wpY_c (by rfl) (by (first | exact wanted_none rfl | exact wanted_some rfl rfl)) (by intro W _; first | (go_simp; rfl) | (go_simp; done) | (trace_state; fail)) ?_
        (simp only [Act.put, List.setIfInBounds_toArray, List.set_cons_succ, List.set_cons_zero])
        refine wpY_y (by rfl) (by (first | exact wanted_none rfl | exact wanted_some rfl rfl)) (fun G F W HF hG => ?_)
        go_simp
        unfold upY
        have hbx : (befP tts (j + 1)).length = nx ∧ nx ≤ 100 := by
          have h1 := (RX.out.ri_ (HF.out.hld fun z hz => .tail _ (List.mem_append_left _ (HL2.out z hz)))).2
          have h2 := befN_le tts (j + 1) (j + 1)
          refine ⟨h1, ?_⟩
          rw [← h1]
          unfold befP
          rw [List.length_map]
          omega
        refine Calls.mono (containsI_any Bx nx cx (befP tts (j + 1)) j dd W (RX.out.ri_ (HF.out.hld fun z hz => .tail _ (List.mem_append_left _ (HL2.out z hz)))).1 hbx.1 (by omega) HDD) ?_
        rintro _ W2 ⟨rfl, rfl⟩
        refine ⟨_, rfl, hG _ _ _ HF.out (List.Sublist.refl _) ?_⟩
        clear HF hG
        (simp only [Act.put, List.setIfInBounds_toArray, List.set_cons_succ, List.set_cons_zero])
        refine wpY_c (by rfl) (by (first | exact wanted_none rfl | exact wanted_some rfl rfl)) (by intro W _; first | (go_simp; rfl) | (go_simp; done) | (trace_state; fail)) ?_
        (simp only [Act.put, List.setIfInBounds_toArray, List.set_cons_succ, List.set_cons_zero])
        refine wpY_c (by rfl) (by (first | exact wanted_none rfl | exact wanted_some rfl rfl)) (by intro W _; first | (go_simp; rfl) | (go_simp; done) | (trace_state; fail)) ?_
        (simp only [Act.put, List.setIfInBounds_toArray, List.set_cons_succ, List.set_cons_zero])
        refine wpY_nil ?_
        clear H
        intro _ H
        go_wp2_with (first
            | go_skip
            | ((with_reducible refine isStore ?_); (first | (refine st1A (v := .int .i64 ((j + 1 : Nat) : Int)) (k := j) (ds := (((List.range k).map fun i : Nat => (i : Int)).set j ((j : Int) + 1)).map (Value.int .i64)) H ?_ (hT := sIntA) (hc := by rw [List.map_set]; rfl) (hk := by simp; omega)) | (refine st1A (v := .int .i64 j) (k := j + 1) (ds := (swapP k j).map (Value.int .i64)) H ?_ (hT := sIntA) (hc := by unfold swapP; simp only [List.map_set]) (hk := by simp; omega))); clear H; intro _ H))
        go_ret
        exact ⟨rfl, H.out.bel⟩
end Go.Proofs.Ytbhbbnmllokglaa

namespace Go.Proofs.Ytbhbbnmllokglaa
open Go.RowKit
set_option linter.unusedVariables false

theorem mem_spotL {z t : Int} : t ∈ spotL z ↔ z ≠ -1 ∧ t = 20 + z := by
  unfold spotL
  split <;> simp_all
theorem mem_touchL {x : AW} {s : St} {t : Int} : t ∈ touchL x s ↔ t = s.arm ∨ (0 ≤ s.part ∧ (t = 10 + s.part ∨ (whereP x s.part ≠ -1 ∧ t = 20 + whereP x s.part))) ∨ (0 ≤ s.slot ∧ s.slot ≠ -1 ∧ t = 20 + s.slot) ∨ (s.kind = 0 ∧ x.spot.getD s.arm.toNat 0 ≠ -1 ∧ t = 20 + x.spot.getD s.arm.toNat 0) ∨ (s.kind = 2 ∧ t = 10 + holdsP x s.arm) := by
  unfold touchL
  simp only [List.mem_append, List.mem_singleton]
  constructor
  · rintro ((((h | h) | h) | h) | h)
    · exact .inl h
    · split at h
      · rename_i hp
        rw [List.mem_append, List.mem_singleton, mem_spotL] at h
        exact .inr (.inl ⟨hp, h⟩)
      · cases h
    · split at h
      · rename_i hp
        exact .inr (.inr (.inl ⟨hp, mem_spotL.1 h⟩))
      · cases h
    · split at h
      · rename_i hp
        exact .inr (.inr (.inr (.inl ⟨hp, mem_spotL.1 h⟩)))
      · cases h
    · split at h
      · rename_i hp
        exact .inr (.inr (.inr (.inr ⟨hp, by simpa using h⟩)))
      · cases h
  · rintro (h | ⟨hp, h⟩ | ⟨hp, h⟩ | ⟨hp, h⟩ | ⟨hp, h⟩)
    · exact .inl (.inl (.inl (.inl h)))
    · refine .inl (.inl (.inl (.inr ?_)))
      rw [if_pos hp, List.mem_append, List.mem_singleton, mem_spotL]
      exact h
    · refine .inl (.inl (.inr ?_))
      rw [if_pos hp, mem_spotL]
      exact h
    · refine .inl (.inr ?_)
      rw [if_pos hp, mem_spotL]
      exact h
    · refine .inr ?_
      rw [if_pos hp, List.mem_singleton]
      exact h
theorem idxI_set {xs : List Int} {q : Nat} {u v : Int} (h1 : xs[q]? ≠ some v) (h2 : u ≠ v) : idxI (xs.set q u) v = idxI xs v := by
  rcases idxI_cases xs v with ⟨h3, h4⟩ | ⟨k, h3, h4, h5⟩
  · rw [h3]
    refine idxI_no fun hm => ?_
    obtain ⟨i, hi⟩ := List.mem_iff_getElem?.1 hm
    by_cases hq : q = i
    · subst hq
      rw [List.getElem?_set] at hi
      simp at hi
      exact h2 hi.2
    · rw [List.getElem?_set_ne hq] at hi
      exact h4 (List.mem_of_getElem? hi)
  · rw [h3]
    have hqk : q ≠ k := by
      rintro rfl
      exact h1 h4
    refine idxI_at (by rw [List.getElem?_set_ne hqk]; exact h4) fun hm => ?_
    obtain ⟨i, hik, hi⟩ := mem_takeI.1 hm
    by_cases hq : q = i
    · subst hq
      rw [List.getElem?_set] at hi
      simp at hi
      exact h2 hi.2
    · rw [List.getElem?_set_ne hq] at hi
      exact h5 (mem_takeI.2 ⟨i, hik, hi⟩)
theorem here_whereO {x : AW} {p t : Int} (h : whereP x p = t) (ht : t ≠ -1) : ∃ q, x.place[p.toNat]? = some q ∧ -1 ≤ q := by
  unfold whereP at h
  split at h
  · omega
  · split at h
    · omega
    · rename_i q hq
      split at h
      · omega
      · exact ⟨q, hq, by omega⟩
/-- What a step does: at most one write in each of the three rows. -/
structure WrT where
  sp : Option (Nat × Int)
  pl : Option (Nat × Int)
  sn : Option (Nat × Bool)
def setO {α : Type} (l : List α) : Option (Nat × α) → List α
  | none => l
  | some (i, v) => l.set i v
def apE (x : AW) (e : WrT) : AW := ⟨x.slots, setO x.place e.pl, setO x.seen e.sn, setO x.spot e.sp⟩
def effS (x : AW) (s : St) : WrT :=
  if s.kind = 0 then ⟨some (s.arm.toNat, targetP x s), none, none⟩
  else if s.kind = 1 then ⟨none, some (s.part.toNat, -2 - s.arm), none⟩
  else if s.kind = 3 then ⟨none, none, some (s.part.toNat, true)⟩
  else if s.kind = 2 then ⟨none, some ((holdsP x s.arm).toNat, s.slot), some ((holdsP x s.arm).toNat, false)⟩
  else ⟨none, none, none⟩
theorem doS_eff (x : AW) (s : St) : doS x s = apE x (effS x s) := by
  unfold doS effS apE
  split
  · rfl
  · split
    · rfl
    · split
      · rfl
      · split <;> rfl
def OffO {α : Type} (a b : Option (Nat × α)) : Prop := ∀ i v j u, a = some (i, v) → b = some (j, u) → i ≠ j
theorem setO_comm {α : Type} {l : List α} {a b : Option (Nat × α)} (h : OffO a b) : setO (setO l a) b = setO (setO l b) a := by
  rcases a with _ | ⟨i, v⟩
  · rfl
  · rcases b with _ | ⟨j, u⟩
    · rfl
    · exact List.set_comm v u (h i v j u rfl rfl)
/-- What the rows hold of a step that can be done. -/
theorem can_facts {x : AW} {s : St} (hc : canP x s = 0) :
    (s.kind = 0 ∧ targetP x s ≠ -1 ∨ s.kind = 1 ∧ 0 ≤ s.part ∧ s.slot = -1 ∧ whereP x s.part ≠ -1 ∨ s.kind = 3 ∧ 0 ≤ s.part ∧ s.slot = -1 ∨ (s.kind = 2 ∧ s.part = -1 ∧ 0 ≤ s.slot ∧ 0 ≤ holdsP x s.arm ∧ x.place[(holdsP x s.arm).toNat]? = some (-2 - s.arm)) ∨ s.kind = 4) ∧ 0 ≤ s.arm := by
  obtain ⟨hf, ha, hp, hs, hm⟩ := canP_ok hc
  have h0 := hf.2.2.1
  refine ⟨?_, h0⟩
  rcases form_cases hf with h | h | h | h | h | h
  · refine .inl ⟨h.1, fun e => ?_⟩
    unfold mayP at hm
    simp only [h.1, e] at hm
    simp at hm
    split at hm <;> omega
  · refine .inl ⟨h.1, fun e => ?_⟩
    unfold mayP at hm
    simp only [h.1, e] at hm
    simp at hm
    split at hm <;> omega
  · refine .inr (.inl ⟨h.1, h.2.1, h.2.2, fun e => ?_⟩)
    unfold mayP at hm
    have e2 : targetP x s = -1 := by unfold targetP; rw [if_pos h.2.1, e]
    simp only [h.1, e2] at hm
    simp at hm
    split at hm <;> omega
  · exact .inr (.inr (.inl h))
  · refine .inr (.inr (.inr (.inl ⟨h.1, h.2.1, h.2.2, ?_⟩)))
    have h1 := (mayP_put h.1 hm).1
    rcases holdsP_cases x s.arm with h2 | ⟨p, h2, h3, h4⟩
    · omega
    · rw [h2] at h1 ⊢
      exact ⟨h1, by simpa using h4⟩
  · exact .inr (.inr (.inr (.inr h.1)))
theorem setO_len {α : Type} (l : List α) (o : Option (Nat × α)) : (setO l o).length = l.length := by
  rcases o with _ | ⟨i, v⟩ <;> simp [setO]
theorem setO_ne {α : Type} {l : List α} {o : Option (Nat × α)} {k : Nat} (h : ∀ i v, o = some (i, v) → i ≠ k) : (setO l o)[k]? = l[k]? := by
  rcases o with _ | ⟨i, v⟩
  · rfl
  · exact List.getElem?_set_ne (h i v rfl)
theorem idxI_setO {l : List Int} {o : Option (Nat × Int)} {v : Int} (h : ∀ i u, o = some (i, u) → u ≠ v ∧ l[i]? ≠ some v) : idxI (setO l o) v = idxI l v := by
  rcases o with _ | ⟨i, u⟩
  · rfl
  · exact idxI_set (h i u rfl).2 (h i u rfl).1
theorem mem_setO {l : List Int} {o : Option (Nat × Int)} {v : Int} (h : ∀ i u, o = some (i, u) → u ≠ v ∧ l[i]? ≠ some v) : v ∈ setO l o ↔ v ∈ l := by
  rcases o with _ | ⟨i, u⟩
  · rfl
  · obtain ⟨h1, h2⟩ := h i u rfl
    show v ∈ l.set i u ↔ _
    constructor
    · intro hm
      rcases mem_set' hm with h | h
      · exact absurd h.symm h1
      · exact h
    · intro hm
      obtain ⟨j, hj⟩ := List.mem_iff_getElem?.1 hm
      have hij : i ≠ j := by
        rintro rfl
        exact h2 hj
      exact List.mem_of_getElem? (i := j) (by rw [List.getElem?_set_ne hij]; exact hj)
/-- All that a step reads is the same in two worlds. -/
structure SameFor (x y : AW) (t : St) : Prop where
  slots : y.slots = x.slots
  pl : y.place.length = x.place.length
  sl : y.spot.length = x.spot.length
  hold : holdsP y t.arm = holdsP x t.arm
  tgt : targetP y t = targetP x t
  wh : 0 ≤ t.part → whereP y t.part = whereP x t.part
  spot : y.spot[t.arm.toNat]? = x.spot[t.arm.toNat]?
  mem : t.kind = 0 → (targetP x t ∈ y.spot ↔ targetP x t ∈ x.spot)
  seen : 0 ≤ t.part → y.seen[t.part.toNat]? = x.seen[t.part.toNat]?
  inn : t.kind = 2 → inP y t.slot = inP x t.slot
theorem SameFor.can {x y : AW} {t : St} (h : SameFor x y t) (hf : formP t) : canP y t = canP x t := by
  unfold canP
  rw [h.slots, h.pl, h.sl]
  have e : mayP y t = mayP x t := by
    unfold mayP
    simp only [h.hold, h.tgt, h.spot]
    rcases form_cases hf with k | k | k | k | k | k
    · simp only [k.1, h.mem k.1, if_true]
    · simp only [k.1, h.mem k.1, if_true]
    · simp only [k.1, h.seen k.2.1]; simp
    · simp only [k.1, h.seen k.2.1]; simp
    · simp only [k.1, h.inn k.1]; simp
    · simp only [k.1]; simp
  rw [e]
theorem SameFor.touch {x y : AW} {t : St} (h : SameFor x y t) : touchL y t = touchL x t := by
  unfold touchL
  rw [h.hold, List.getD_eq_getElem?_getD, List.getD_eq_getElem?_getD, h.spot]
  by_cases hp : 0 ≤ t.part
  · rw [h.wh hp]
  · rw [if_neg hp, if_neg hp]
theorem SameFor.eff {x y : AW} {t : St} (h : SameFor x y t) : effS y t = effS x t := by
  unfold effS
  rw [h.tgt, h.hold]
/-- Writes outside what a step reads. -/
structure Foreign (x : AW) (e : WrT) (t : St) (tg : Int) : Prop where
  sp : ∀ i v, e.sp = some (i, v) → i ≠ t.arm.toNat ∧ (t.kind = 0 → v ≠ tg ∧ x.spot[i]? ≠ some tg)
  pl : ∀ q v, e.pl = some (q, v) → (0 ≤ t.part → q ≠ t.part.toNat) ∧ (v ≠ -2 - t.arm ∧ x.place[q]? ≠ some (-2 - t.arm)) ∧ (t.kind = 2 → v ≠ t.slot ∧ x.place[q]? ≠ some t.slot)
  sn : ∀ q v, e.sn = some (q, v) → (0 ≤ t.part → q ≠ t.part.toNat)
theorem Foreign.same {x : AW} {e : WrT} {t : St} {tg : Int} (h : Foreign x e t tg) (ht : tg = targetP x t ∨ tg = targetP (apE x e) t) : SameFor x (apE x e) t := by
  have hw : 0 ≤ t.part → whereP (apE x e) t.part = whereP x t.part := fun h0 => by
    have e1 : (apE x e).place[t.part.toNat]? = x.place[t.part.toNat]? := setO_ne fun i v hv => (h.pl i v hv).1 h0
    unfold whereP
    rw [e1]
  have htg : targetP (apE x e) t = targetP x t := by
    unfold targetP
    split
    · exact hw (by assumption)
    · rfl
  have htg2 : tg = targetP x t := ht.elim id fun h => h.trans htg
  refine ⟨rfl, setO_len _ _, setO_len _ _, ?_, htg, hw, setO_ne fun i v hv => (h.sp i v hv).1, fun k0 => ?_, fun h0 => setO_ne fun i v hv => h.sn i v hv h0, fun k2 => ?_⟩
  · unfold holdsP
    show (if t.arm < 0 ∨ ((setO x.spot e.sp).length : Int) ≤ t.arm then -1 else idxI (setO x.place e.pl) (-2 - t.arm)) = _
    rw [setO_len, idxI_setO fun i u hu => (h.pl i u hu).2.1]
  · exact mem_setO fun i u hu => htg2 ▸ (h.sp i u hu).2 k0
  · unfold inP
    show (if t.slot < 0 then -1 else idxI (setO x.place e.pl) t.slot) = _
    rw [idxI_setO fun i u hu => (h.pl i u hu).2.2 k2]
theorem eff_go {x : AW} {s : St} (k : s.kind = 0) : effS x s = ⟨some (s.arm.toNat, targetP x s), none, none⟩ := by
  unfold effS; rw [if_pos k]
theorem eff_take {x : AW} {s : St} (k : s.kind = 1) : effS x s = ⟨none, some (s.part.toNat, -2 - s.arm), none⟩ := by
  unfold effS; rw [if_neg (by omega), if_pos k]
theorem eff_look {x : AW} {s : St} (k : s.kind = 3) : effS x s = ⟨none, none, some (s.part.toNat, true)⟩ := by
  unfold effS; rw [if_neg (by omega), if_neg (by omega), if_pos k]
theorem eff_put {x : AW} {s : St} (k : s.kind = 2) : effS x s = ⟨none, some ((holdsP x s.arm).toNat, s.slot), some ((holdsP x s.arm).toNat, false)⟩ := by
  unfold effS; rw [if_neg (by omega), if_neg (by omega), if_neg (by omega), if_pos k]
theorem eff_wait {x : AW} {s : St} (k : s.kind = 4) : effS x s = ⟨none, none, none⟩ := by
  unfold effS; rw [if_neg (by omega), if_neg (by omega), if_neg (by omega), if_neg (by omega)]
theorem touch_target {x : AW} {s : St} (hc : canP x s = 0) (h : targetP x s ≠ -1) : 20 + targetP x s ∈ touchL x s := by
  have hf := (canP_ok hc).1
  unfold formP at hf
  unfold targetP at h ⊢
  split at h
  · rename_i hp
    rw [if_pos hp]
    exact mem_touchL.2 (.inr (.inl ⟨hp, .inr ⟨h, rfl⟩⟩))
  · rename_i hp
    rw [if_neg hp]
    exact mem_touchL.2 (.inr (.inr (.inl ⟨by omega, h, rfl⟩)))
theorem eff_idx {x : AW} {s : St} (hc : canP x s = 0) : (∀ i v, (effS x s).sp = some (i, v) → i = s.arm.toNat) ∧ (∀ i v, (effS x s).pl = some (i, v) → 10 + (i : Int) ∈ touchL x s) ∧ (∀ i v, (effS x s).sn = some (i, v) → 10 + (i : Int) ∈ touchL x s) := by
  have hq : ∀ q : Int, 0 ≤ q → 10 + q ∈ touchL x s → 10 + (q.toNat : Int) ∈ touchL x s := fun q h0 h => by rw [Int.toNat_of_nonneg h0]; exact h
  obtain ⟨fs, ha⟩ := can_facts hc
  rcases fs with k | k | k | k | k
  · rw [eff_go k.1]
    exact ⟨fun i v h => (by cases h; rfl), fun i v h => (by cases h), fun i v h => (by cases h)⟩
  · rw [eff_take k.1]
    exact ⟨fun i v h => (by cases h), fun i v h => (by cases h; exact hq _ k.2.1 (mem_touchL.2 (.inr (.inl ⟨k.2.1, .inl rfl⟩)))), fun i v h => (by cases h)⟩
  · rw [eff_look k.1]
    exact ⟨fun i v h => (by cases h), fun i v h => (by cases h), fun i v h => (by cases h; exact hq _ k.2.1 (mem_touchL.2 (.inr (.inl ⟨k.2.1, .inl rfl⟩))))⟩
  · rw [eff_put k.1]
    exact ⟨fun i v h => (by cases h), fun i v h => (by cases h; exact hq _ k.2.2.2.1 (mem_touchL.2 (.inr (.inr (.inr (.inr ⟨k.1, rfl⟩)))))), fun i v h => (by cases h; exact hq _ k.2.2.2.1 (mem_touchL.2 (.inr (.inr (.inr (.inr ⟨k.1, rfl⟩))))))⟩
  · rw [eff_wait k]
    exact ⟨fun i v h => (by cases h), fun i v h => (by cases h), fun i v h => (by cases h)⟩
theorem foreign {x z : AW} {s t : St} (hs : canP x s = 0) (ht : canP z t = 0) (hd : ∀ c, c ∈ touchL x s → c ∈ touchL z t → False) : Foreign x (effS x s) t (targetP z t) := by
  have ft := (canP_ok ht).1
  obtain ⟨I1, I2, I3⟩ := eff_idx hs
  have fs0 := (canP_ok hs).1
  obtain ⟨fs, ha⟩ := can_facts hs
  have hb := (can_facts ht).2
  have A : s.arm ≠ t.arm := fun e => hd s.arm (mem_touchL.2 (.inl rfl)) (mem_touchL.2 (.inl e))
  have T : t.kind = 0 → targetP z t ≠ -1 ∧ 20 + targetP z t ∈ touchL z t := fun k0 => by
    have h1 : targetP z t ≠ -1 := by
      rcases (can_facts ht).1 with k | k | k | k | k <;> first | exact k.2 | (exfalso; omega)
    exact ⟨h1, touch_target ht h1⟩
  have P : ∀ q : Nat, 10 + (q : Int) ∈ touchL x s → 0 ≤ t.part → q ≠ t.part.toNat := fun q hq h0 e => by
    refine hd _ hq (mem_touchL.2 (.inr (.inl ⟨h0, .inl ?_⟩)))
    omega
  have S : t.kind = 2 → 0 ≤ t.slot ∧ 20 + t.slot ∈ touchL z t := fun k2 => by
    have h0 : 0 ≤ t.slot := by unfold formP at ft; omega
    exact ⟨h0, mem_touchL.2 (.inr (.inr (.inl ⟨h0, by omega, rfl⟩)))⟩
  refine ⟨fun i v h => ?_, fun q v h => ?_, fun q v h => P q (I3 q v h)⟩
  · have hi := I1 i v h
    subst hi
    refine ⟨by omega, fun k0 => ?_⟩
    obtain ⟨T1, T2⟩ := T k0
    rcases fs with k | k | k | k | k
    · rw [eff_go k.1] at h
      cases h
      refine ⟨fun e => hd _ (touch_target hs k.2) (e ▸ T2), fun e => hd _ ?_ T2⟩
      have e2 : x.spot.getD s.arm.toNat 0 = targetP z t := by rw [List.getD_eq_getElem?_getD, e]; rfl
      exact mem_touchL.2 (.inr (.inr (.inr (.inl ⟨k.1, by rw [e2]; exact T1, by rw [e2]⟩))))
    · rw [eff_take k.1] at h; cases h
    · rw [eff_look k.1] at h; cases h
    · rw [eff_put k.1] at h; cases h
    · rw [eff_wait k] at h; cases h
  · refine ⟨P q (I2 q v h), ?_⟩
    rcases fs with k | k | k | k | k
    · rw [eff_go k.1] at h; cases h
    · rw [eff_take k.1] at h
      cases h
      have hwh := k.2.2.2
      obtain ⟨q, hq, hq1⟩ := here_whereO rfl hwh
      refine ⟨⟨by omega, fun e => ?_⟩, fun k2 => ⟨?_, fun e => ?_⟩⟩
      · rw [hq] at e; cases e; omega
      · have := (S k2).1; omega
      · have h3 := S k2
        rw [hq] at e
        cases e
        have h4 : whereP x s.part = t.slot := by
          unfold whereP
          rw [if_neg (by omega), hq]
          show (if t.slot < -1 then (-1 : Int) else if t.slot = -1 then 8 + s.part else t.slot) = t.slot
          rw [if_neg (by omega), if_neg (by omega)]
        exact hd _ (mem_touchL.2 (.inr (.inl ⟨k.2.1, .inr ⟨hwh, rfl⟩⟩))) (by rw [h4]; exact h3.2)
    · rw [eff_look k.1] at h; cases h
    · rw [eff_put k.1] at h
      cases h
      refine ⟨⟨by omega, fun e => ?_⟩, fun k2 => ⟨fun e => ?_, fun e => ?_⟩⟩
      · rw [k.2.2.2.2] at e
        have := Option.some.inj e
        omega
      · exact hd _ (mem_touchL.2 (.inr (.inr (.inl ⟨k.2.2.1, by omega, rfl⟩)))) (by rw [e]; exact (S k2).2)
      · have := (S k2).1
        rw [k.2.2.2.2] at e
        have := Option.some.inj e
        omega
    · rw [eff_wait k] at h; cases h
/-- Two steps, one after another, that involve no common thing may change places. -/
theorem step_comm {x : AW} {s t : St} (hs : canP x s = 0) (ht : canP (doS x s) t = 0) (hd : ∀ c, c ∈ touchL x s → c ∈ touchL (doS x s) t → False) :
    canP x t = 0 ∧ canP (doS x t) s = 0 ∧ doS (doS x t) s = doS (doS x s) t ∧ touchL x t = touchL (doS x s) t ∧ touchL (doS x t) s = touchL x s := by
  have F := foreign hs ht hd
  have S1 : SameFor x (doS x s) t := by
    rw [doS_eff x s] at F ⊢
    exact F.same (.inr rfl)
  have ht' : canP x t = 0 := (S1.can (canP_ok ht).1).symm.trans ht
  have et := S1.touch
  have G := foreign ht' hs fun c a b => hd c b (et ▸ a)
  have S2 : SameFor x (doS x t) s := by
    rw [doS_eff x t]
    exact G.same (.inl rfl)
  refine ⟨ht', (S2.can (canP_ok hs).1).trans hs, ?_, et.symm, S2.touch⟩
  obtain ⟨I1, I2, I3⟩ := eff_idx hs
  obtain ⟨J1, J2, J3⟩ := eff_idx ht'
  have hd2 : ∀ i j : Nat, 10 + (i : Int) ∈ touchL x t → 10 + (j : Int) ∈ touchL x s → i ≠ j := fun i j h1 h2 e => by
    subst e
    exact hd _ h2 (et ▸ h1)
  rw [doS_eff (doS x t) s, doS_eff (doS x s) t, S2.eff, S1.eff, doS_eff x t, doS_eff x s]
  unfold apE
  rw [setO_comm (l := x.spot) (a := (effS x t).sp) (b := (effS x s).sp), setO_comm (l := x.place) (a := (effS x t).pl) (b := (effS x s).pl), setO_comm (l := x.seen) (a := (effS x t).sn) (b := (effS x s).sn)]
  · exact fun i v j u h1 h2 => hd2 i j (J3 i v h1) (I3 j u h2)
  · exact fun i v j u h1 h2 => hd2 i j (J2 i v h1) (I2 j u h2)
  · intro i v j u h1 h2
    rw [J1 i v h1]
    exact fun e => (F.sp j u h2).1 e.symm
end Go.Proofs.Ytbhbbnmllokglaa

namespace Go.Proofs.Ytbhbbnmllokglaa
open Go.RowKit
set_option linter.unusedVariables false

/-- Steps with their touches, done in the order of some indices. -/
def RunF (f : Nat → St) (T : Nat → List Int) : AW → List Nat → AW → Prop
  | x, [], y => x = y
  | x, i :: l, y => canP x (f i) = 0 ∧ (∀ c, c ∈ T i ↔ c ∈ touchL x (f i)) ∧ RunF f T (doS x (f i)) l y
section
variable {f : Nat → St} {T : Nat → List Int} {y : AW}
theorem RunF.swap {x : AW} {i j : Nat} {l : List Nat} (h : RunF f T x (i :: j :: l) y) (hd : ∀ c, c ∈ T i → c ∉ T j) : RunF f T x (j :: i :: l) y := by
  obtain ⟨h1, h2, h3, h4, h5⟩ := h
  obtain ⟨c1, c2, c3, c4, c5⟩ := step_comm h1 h3 fun c a b => hd c ((h2 c).2 a) ((h4 c).2 b)
  exact ⟨c1, fun c => by rw [c4]; exact h4 c, c2, fun c => by rw [c5]; exact h2 c, by rw [c3]; exact h5⟩
theorem RunF.front {j : Nat} {l : List Nat} : ∀ {A : List Nat} {x : AW}, RunF f T x (A ++ j :: l) y → (∀ i ∈ A, ∀ c, c ∈ T i → c ∉ T j) → RunF f T x (j :: (A ++ l)) y
  | [], _, h, _ => h
  | a :: A, x, h, hd => by
    obtain ⟨h1, h2, h3⟩ := h
    have h4 := RunF.front h3 fun i hi => hd i (.tail _ hi)
    exact RunF.swap (l := A ++ l) ⟨h1, h2, h4⟩ (hd a (.head _))
theorem RunF.perm : ∀ {p rem : List Nat} {x : AW}, RunF f T x rem y → rem.Pairwise (· < ·) → p.Perm rem → p.Pairwise (fun a b => b < a → ∀ c, c ∈ T b → c ∉ T a) → RunF f T x p y
  | [], rem, x, h, _, hp, _ => by
    obtain rfl := hp.nil_eq
    exact h
  | k :: p, rem, x, h, hs, hp, hd => by
    obtain ⟨A, B, rfl⟩ := List.append_of_mem (hp.subset (List.mem_cons_self))
    have hp2 : p.Perm (A ++ B) := (hp.trans List.perm_middle).cons_inv
    obtain ⟨d1, d2⟩ := List.pairwise_cons.1 hd
    have hA : ∀ i ∈ A, i < k := fun i hi => (List.pairwise_append.1 hs).2.2 i hi k (List.mem_cons_self)
    have h2 := RunF.front h fun i hi => d1 i (hp2.symm.subset (List.mem_append_left _ hi)) (hA i hi)
    obtain ⟨g1, g2, g3⟩ := h2
    refine ⟨g1, g2, RunF.perm g3 (hs.sublist ?_) hp2 d2⟩
    exact List.Sublist.append_left (List.sublist_cons_self _ _) _
theorem RunF.runL : ∀ {p : List Nat} {x : AW}, RunF f T x p y → runL x (p.map f) = some y
  | [], x, h => by
    cases h
    rfl
  | i :: p, x, ⟨h1, _, h3⟩ => by
    rw [List.map_cons, runL_cons, if_pos h1]
    exact RunF.runL h3
theorem runF_of {ss : List St} : ∀ (d i : Nat) (x xi : AW), Go.Proofs.Ytbhbbnmllokglaa.runL x (ss.take i) = some xi → i + d = ss.length → Go.Proofs.Ytbhbbnmllokglaa.runL x ss = some y → (∀ j s, ss[j]? = some s → f j = s) → (∀ (i : Nat) (xi : AW) (si : St), Go.Proofs.Ytbhbbnmllokglaa.runL x (ss.take i) = some xi → ss[i]? = some si → TouchP xi si (T i)) → RunF f T xi (List.range' i d) y
  | 0, i, x, xi, h, hd, hy, _, _ => by
    rw [List.take_of_length_le (by omega), hy] at h
    cases h
    rfl
  | d + 1, i, x, xi, h, hd, hy, hf, hT => by
    obtain ⟨s, hs⟩ := some_at (l := ss) (k := i) (by omega)
    have h2 : Go.Proofs.Ytbhbbnmllokglaa.runL x (ss.take (i + 1)) = Go.Proofs.Ytbhbbnmllokglaa.runL xi [s] := by
      rw [List.take_add_one, hs, runL_append, h]
      rfl
    rw [runL_cons] at h2
    have hfi := hf i s hs
    have hc : canP xi s = 0 := by
      refine Decidable.byContradiction fun hc => ?_
      rw [if_neg hc] at h2
      have h3 := runL_append x (ss.take (i + 1)) (ss.drop (i + 1))
      rw [List.take_append_drop, hy, h2] at h3
      cases h3
    rw [if_pos hc, runL_nil] at h2
    rw [List.range'_succ]
    refine ⟨by rw [hfi]; exact hc, fun c => by rw [hfi]; exact hT i xi s h hs c, ?_⟩
    rw [hfi]
    exact runF_of d (i + 1) x _ h2 (by omega) hy hf hT
end
theorem perm_of_len : ∀ {a b : List Nat}, a.Nodup → (∀ x ∈ a, x ∈ b) → b.length ≤ a.length → a.Perm b
  | [], b, _, _, h => by
    obtain rfl : b = [] := List.eq_nil_of_length_eq_zero (by simpa using h)
    exact .nil
  | x :: a, b, hn, hs, hl => by
    obtain ⟨A, B, rfl⟩ := List.append_of_mem (hs x (List.mem_cons_self))
    obtain ⟨n1, n2⟩ := List.nodup_cons.1 hn
    refine .trans (.cons x (perm_of_len n2 (fun z hz => ?_) ?_)) List.perm_middle.symm
    · have h1 := hs z (.tail _ hz)
      rw [List.mem_append, List.mem_cons] at h1
      rcases h1 with h1 | rfl | h1
      · exact List.mem_append_left _ h1
      · exact absurd hz n1
      · exact List.mem_append_right _ h1
    · simp at hl ⊢
      omega
theorem rightFrom_spec {bl : List (List Int)} : ∀ {ps done : List Int}, rightFrom bl done ps = true → (∀ k ∈ ps, 0 ≤ k ∧ k < bl.length ∧ k ∉ done) ∧ ps.Nodup ∧ ps.Pairwise (fun a b => b ∉ bl.getD a.toNat [])
  | [], done, _ => ⟨fun k h => (by cases h), List.nodup_nil, .nil⟩
  | k :: ps, done, h => by
    rw [rightFrom] at h
    split at h
    · cases h
    · rename_i h1
      split at h
      · rename_i h2
        obtain ⟨r1, r2, r3⟩ := rightFrom_spec h
        have hk : k ∉ done := fun e => h1 (.inr (.inr e))
        have hn : ∀ b ∈ ps, b ∉ done ∧ b ≠ k := fun b hb => by
          have := (r1 b hb).2.2
          rw [List.mem_append, List.mem_singleton] at this
          exact ⟨fun e => this (.inl e), fun e => this (.inr e)⟩
        refine ⟨fun z hz => ?_, List.nodup_cons.2 ⟨fun e => (hn k e).2 rfl, r2⟩, List.pairwise_cons.2 ⟨fun b hb e => (hn b hb).1 (h2 b e), r3⟩⟩
        rcases List.mem_cons.1 hz with rfl | hz
        · exact ⟨by omega, by omega, hk⟩
        · exact ⟨(r1 z hz).1, (r1 z hz).2.1, (hn z hz).1⟩
      · cases h
theorem ints_of : ∀ (ps : List Int), (∀ k ∈ ps, 0 ≤ k) → ∃ pn : List Nat, ps = pn.map fun i : Nat => (i : Int)
  | [], _ => ⟨[], rfl⟩
  | k :: ps, h => by
    obtain ⟨pn, hp⟩ := ints_of ps fun z hz => h z (.tail _ hz)
    exact ⟨k.toNat :: pn, by rw [List.map_cons, ← hp, Int.toNat_of_nonneg (h k (.head _))]⟩
/-- The steps of a plan in the order of some indices. -/
def pickS (ss : List St) (ps : List Int) : List St := ps.map fun k => ss.getD k.toNat ⟨0, 0, 0, 0, 0⟩
theorem order_same {x y : AW} {ss : List St} {tts bl : List (List Int)} {ps : List Int} {n : Nat} (h : runL x ss = some y) (hn : ss.length = n)
    (hT : ∀ (i : Nat) (xi : AW) (si : St), runL x (ss.take i) = some xi → ss[i]? = some si → ∃ ys, tts[i]? = some ys ∧ TouchP xi si ys)
    (hbl : bl.length = n) (hbb : ∀ q, q < n → bl[q]? = some (befP tts q)) (hr : rightFrom bl [] ps = true) (hp : ps.length = n) : runL x (pickS ss ps) = some y := by
  obtain ⟨r1, r2, r3⟩ := rightFrom_spec hr
  obtain ⟨pn, rfl⟩ := ints_of ps fun k hk => (r1 k hk).1
  have hpl : pn.length = n := by simpa using hp
  have hlt : ∀ k ∈ pn, k < n := fun k hk => by
    have := (r1 k (List.mem_map_of_mem hk)).2.1
    omega
  have hnd : pn.Nodup := by
    unfold List.Nodup at r2 ⊢
    rw [List.pairwise_map] at r2
    exact r2.imp fun h e => h (by rw [e])
  have hperm : pn.Perm (List.range n) := perm_of_len hnd (fun k hk => List.mem_range.2 (hlt k hk)) (by simp; omega)
  have hRF : RunF (fun k => ss.getD k ⟨0, 0, 0, 0, 0⟩) (fun k => tts.getD k []) x (List.range' 0 n) y := by
    refine runF_of n 0 x x rfl (by omega) h (fun j s hs => ?_) fun i xi si h1 h2 => ?_
    · show ss.getD j _ = s
      rw [List.getD_eq_getElem?_getD, hs]
      rfl
    · obtain ⟨ys, e1, e2⟩ := hT i xi si h1 h2
      show TouchP xi si (tts.getD i [])
      rw [List.getD_eq_getElem?_getD, e1]
      exact e2
  rw [← List.range_eq_range'] at hRF
  have hR := hRF.perm List.pairwise_lt_range hperm (by
    rw [List.pairwise_map] at r3
    refine List.Pairwise.imp_of_mem (R := fun a b : Nat => (b : Int) ∉ bl.getD (a : Int).toNat []) (fun {a b} ha hb hab hlt2 c c1 c2 => hab ?_) r3
    have hq := hbb a (hlt a ha)
    rw [show ((a : Int).toNat) = a by simp, List.getD_eq_getElem?_getD, hq]
    show (b : Int) ∈ befP tts a
    unfold befP befN
    refine List.mem_map.2 ⟨b, List.mem_filter.2 ⟨List.mem_range.2 hlt2, decide_eq_true ⟨c, c1, c2⟩⟩, rfl⟩)
  have := hR.runL
  unfold pickS
  rw [List.map_map]
  exact this
/-- One more step at the end of an order. -/
theorem rightFrom_snoc {bl : List (List Int)} {k : Int} : ∀ {ps done : List Int}, rightFrom bl done ps = true → 0 ≤ k → k < bl.length → k ∉ done ++ ps → (∀ x ∈ bl.getD k.toNat [], x ∈ done ++ ps) → rightFrom bl done (ps ++ [k]) = true
  | [], done, _, h0, h1, h2, h3 => by
    rw [List.append_nil] at h2 h3
    rw [List.nil_append, rightFrom, if_neg (by rintro (h | h | h) <;> first | omega | exact h2 h), if_pos h3]
    rfl
  | a :: ps, done, h, h0, h1, h2, h3 => by
    rw [rightFrom] at h
    rw [List.cons_append, rightFrom]
    split at h
    · cases h
    · rename_i g1
      rw [if_neg g1]
      split at h
      · rename_i g2
        rw [if_pos g2]
        exact rightFrom_snoc h h0 h1 (by simpa using h2) (by simpa using h3)
      · cases h
theorem len_subI : ∀ (xs ys : List Int), xs.Pairwise (· ≠ ·) → (∀ x ∈ xs, x ∈ ys) → xs.length ≤ ys.length
  | [], ys, _, _ => by simp
  | x :: xs, ys, hp, hs => by
    have hx : x ∈ ys := hs x List.mem_cons_self
    have h1 := (List.pairwise_cons.1 hp).1
    have ih := len_subI xs (ys.erase x) hp.of_cons (fun z hz => (List.mem_erase_of_ne (Ne.symm (h1 z hz))).2 (hs z (List.mem_cons_of_mem _ hz)))
    rw [List.length_erase_of_mem hx] at ih
    have := List.length_pos_of_mem hx
    simp only [List.length_cons]
    omega
/-- The steps that are ready. -/
def readyN (bl : List (List Int)) (done : List Int) (n : Nat) : List Nat := (List.range n).filter fun k => decide ((k : Int) ∉ done ∧ ∀ x ∈ bl.getD k [], x ∈ done)
def readyP (bl : List (List Int)) (done : List Int) (n : Nat) : List Int := (readyN bl done n).map fun i : Nat => (i : Int)
theorem readyN_succ (bl : List (List Int)) (done : List Int) (n : Nat) : readyN bl done (n + 1) = readyN bl done n ++ (if (n : Int) ∉ done ∧ ∀ x ∈ bl.getD n [], x ∈ done then [n] else []) := by
  unfold readyN
  rw [List.range_succ, List.filter_append]
  congr 1
  by_cases h : (n : Int) ∉ done ∧ ∀ x ∈ bl.getD n [], x ∈ done
  · rw [if_pos h, List.filter_cons, if_pos (by simpa using h)]
    rfl
  · rw [if_neg h, List.filter_cons, if_neg (by simpa using h)]
    rfl
theorem readyP_len (bl : List (List Int)) (done : List Int) (n : Nat) : (readyP bl done n).length ≤ n := by
  unfold readyP readyN
  rw [List.length_map]
  exact Nat.le_trans (List.length_filter_le _ _) (by simp)
theorem readyP_some {bl : List (List Int)} {done : List Int} (he : EarlyB bl) (hd : done.length < bl.length) : 0 < (readyP bl done bl.length).length := by
  have hmiss : ∃ k : Nat, k < bl.length ∧ (k : Int) ∉ done := by
    refine Decidable.byContradiction fun hno => ?_
    have hall : ∀ k : Nat, k < bl.length → (k : Int) ∈ done := fun k hk => Decidable.byContradiction fun h => hno ⟨k, hk, h⟩
    have hsub : ((List.range bl.length).map fun i : Nat => (i : Int)).length ≤ done.length := by
      refine len_subI _ _ ?_ ?_
      · rw [List.pairwise_map]
        exact List.pairwise_lt_range.imp fun h => by omega
      · intro x hx
        obtain ⟨k, hk, rfl⟩ := List.mem_map.1 hx
        exact hall k (List.mem_range.1 hk)
    simp at hsub
    omega
  obtain ⟨k, hk, hmin⟩ : ∃ k : Nat, (k < bl.length ∧ (k : Int) ∉ done) ∧ ∀ j < k, ¬ (j < bl.length ∧ (j : Int) ∉ done) := by
    obtain ⟨k0, h0⟩ := hmiss
    induction k0 using Nat.strongRecOn with
    | ind k ih =>
      by_cases hj : ∃ j, j < k ∧ (j < bl.length ∧ (j : Int) ∉ done)
      · obtain ⟨j, h1, h2⟩ := hj
        exact ih j h1 h2
      · exact ⟨k, h0, fun j h1 h2 => hj ⟨j, h1, h2⟩⟩
  have hm : k ∈ readyN bl done bl.length := by
    refine List.mem_filter.2 ⟨List.mem_range.2 hk.1, decide_eq_true ⟨hk.2, fun x hx => ?_⟩⟩
    have h1 := early_getD he hx
    obtain ⟨j, rfl⟩ := Int.eq_ofNat_of_zero_le h1.1
    exact Decidable.byContradiction fun h => hmin j (by omega) ⟨by omega, h⟩
  unfold readyP
  rw [List.length_map]
  exact List.length_pos_of_mem hm
theorem readyP_mem {bl : List (List Int)} {done : List Int} {n : Nat} {k : Int} (h : k ∈ readyP bl done n) : 0 ≤ k ∧ k < n ∧ k ∉ done ∧ ∀ x ∈ bl.getD k.toNat [], x ∈ done := by
  obtain ⟨i, hi, rfl⟩ := List.mem_map.1 h
  obtain ⟨h1, h2⟩ := List.mem_filter.1 hi
  have h3 := of_decide_eq_true h2
  have h4 := List.mem_range.1 h1
  exact ⟨by omega, by omega, h3.1, by simpa using h3.2⟩
end Go.Proofs.Ytbhbbnmllokglaa

namespace Go.Proofs.Ytbhbbnmllokglaa
open Go.RowKit
set_option linter.unusedVariables false
set_option maxRecDepth 100000

structure PickK (m : Ents) (b7 : Nat) (v : Value) (dn : Nat) (done : List Int) : Prop where
  m7 : (b7, 22, [v]) ∈ m
  row : RowIn m 3 1 v dn (done.map (Value.int .i64))
set_option maxHeartbeats 4000000 in
theorem pick1_any (w0 w : World) (m : Ents) (b7 : Nat) (v : Value) (dn : Nat) (done : List Int) (z : Int) (H : Hid (Hp w0 w m)) (K : Hid (PickK m b7 v dn done)) (hn : dn ≤ 1000) :
    Calls Try.prog 27 #[.int .i64 z, .pointer (some ⟨b7, 0, none⟩)] w fun e w' => e = .returned (.bool (!decide (z ∈ done))) ∧ Hp w0 w' m := by
  have M7 := Lib.hid K.out.m7
  obtain ⟨B, c, rfl, _⟩ := K.out.row.shape
  go_enter Try.func27, Try.ntmps27
  go_wp2_with (first
      | go_skip
      | ((with_reducible refine isLoad ?_); refine ld1A H ?_ (hT := kInts) (hm := M7.out)))
  go_at_call 12
  obtain ⟨hri, hyl⟩ := K.out.row.ri_ (H.out.hld fun z hz => hz)
  refine (containsI_any B dn c done z (decide (z ∈ done)) _ hri hyl (by omega) (Lib.hid rfl)).mono ?_
  rintro _ _ ⟨rfl, rfl⟩
  go_wp2_with (first
      | go_skip
      | ((with_reducible refine isLoad ?_); refine ld1A H ?_ (hT := kInts) (hm := M7.out)))
  go_ret
  exact ⟨rfl, H.out⟩
set_option maxHeartbeats 4000000 in
theorem idxFP_any (w0 w : World) (m : Ents) (b7 : Nat) (v0 : Value) (dn : Nat) (done : List Int) (E : Ents) (xs : List Int) (v : Value) (n : Nat) (H : Hid (Hp w0 w m)) (K : Hid (PickK m b7 v0 dn done)) (hdn : dn ≤ 1000) (RX : Hid (RowIn E 3 1 v n (xs.map (Value.int .i64)))) (hE : Hid (∀ x ∈ E, x ∈ m)) (hn : n ≤ 1000) :
    Calls Try.prog 42 #[v, .func (.func 27) #[] #[.pointer (some ⟨b7, 0, none⟩)]] w fun e w' => ∃ r : Int, e = .returned (.int .i64 r) ∧ (0 ≤ r ↔ ∃ z ∈ xs, z ∉ done) ∧ Hp w0 w' m := by
  obtain ⟨B, c, rfl, hcm⟩ := RX.out.shape
  have hxl := Lib.hid (RX.out.ri_ (H.out.hld hE.out)).2
  go_enter Try.func42, Try.ntmps42
  go_wp2_with (first
      | go_skip)
  go_loopw [8] (fun i_ wr => ∃ j : Nat, i_ = .int .i64 j ∧ j ≤ n ∧ Hid (∀ i z, i < j → xs[i]? = some z → z ∈ done) ∧ Hid (Hp w0 wr m)) (fun i_ _ => n - (intOf i_).toNat)
  case atStart => exact ⟨0, rfl, by omega, Lib.hid (fun i z h => by omega), H⟩
  case round =>
    clear H
    obtain ⟨j, rfl, hj, NO, H⟩ := hrel
    by_cases hlt : j < n
    · obtain ⟨z, hz⟩ : ∃ z, xs[j]? = some z := ⟨_, List.getElem?_eq_getElem (by rw [hxl.out]; exact hlt)⟩
      obtain ⟨gx, c', e1⟩ : ∃ g c', (.slice B n c : Value) = .slice (some ⟨g, 0, none⟩) n c' := by
        obtain ⟨cur, q1, _⟩ := RX.out
        exact q1.someI (by intro e; have h := lt_of_at hz; simp at e; rw [e] at h; simp at h)
      cases e1
      have X := (RX.out.cells_ (H.out.hld hE.out)).2.2.2 j (.int .i64 z) (by rw [List.getElem?_map, hz]; rfl)
      have HZ := Lib.hid hz
      clear hz
      go_wp2_with (first
          | go_skip)
      go_at_call 27
      refine Calls.mono (pick1_any w0 _ m b7 v0 dn done z H K hdn) ?_
      rintro _ _ ⟨rfl, h2⟩
      replace H := Lib.hid h2
      clear h2 X
      by_cases hm : z ∈ done
      · have hd : decide (z ∈ done) = true := decide_eq_true hm
        go_wp2_with (first
            | go_skip)
        go_roundw
        case rel => exact ⟨j + 1, by go_num, by omega, Lib.hid (fun i z' hi hz' => by
          by_cases hij : i < j
          · exact NO.out i z' hij hz'
          · obtain rfl : i = j := by omega
            have e := Option.some.inj (hz'.symm.trans HZ.out)
            subst e
            exact hm), H⟩
        case measure => simp [intOf]; omega
      · have hd : decide (z ∈ done) = false := decide_eq_false hm
        go_wp2_with (first
            | go_skip)
        go_ret
        exact ⟨j, rfl, ⟨fun _ => ⟨z, List.mem_of_getElem? HZ.out, hm⟩, fun _ => by omega⟩, H.out⟩
    · obtain rfl : j = n := by omega
      go_wp2_with (first
          | go_skip)
      go_ret
      refine ⟨-1, rfl, ⟨fun h => absurd h (by omega), fun ⟨z, hz, hm⟩ => ?_⟩, H.out⟩
      obtain ⟨i, hi⟩ := List.mem_iff_getElem?.1 hz
      exact absurd (NO.out i z (by have := lt_of_at hi; have := hxl.out; omega) hi) hm
set_option maxHeartbeats 4000000 in
theorem contFP_any (w0 w : World) (m : Ents) (b7 : Nat) (v0 : Value) (dn : Nat) (done : List Int) (E : Ents) (xs : List Int) (v : Value) (n : Nat) (H : Hid (Hp w0 w m)) (K : Hid (PickK m b7 v0 dn done)) (hdn : dn ≤ 1000) (RX : Hid (RowIn E 3 1 v n (xs.map (Value.int .i64)))) (hE : Hid (∀ x ∈ E, x ∈ m)) (hn : n ≤ 1000) :
    Calls Try.prog 23 #[v, .func (.func 27) #[] #[.pointer (some ⟨b7, 0, none⟩)]] w fun e w' => e = .returned (.bool (decide (∃ z ∈ xs, z ∉ done))) ∧ Hp w0 w' m := by
  go_enter Try.func23, Try.ntmps23
  go_wp2_with (first
      | go_skip)
  go_at_call 42
  refine Calls.mono (idxFP_any w0 _ m b7 v0 dn done E xs v n H K hdn RX hE hn) ?_
  rintro _ _ ⟨r, rfl, hr, h2⟩
  replace H := Lib.hid h2
  have HR := Lib.hid hr
  clear h2 hr
  go_wp2_with (first
      | go_skip)
  go_ret
  refine ⟨ret_bool ?_, H.out⟩
  rw [decide_eq_decide]
  exact HR.out
end Go.Proofs.Ytbhbbnmllokglaa

namespace Go.Proofs.Ytbhbbnmllokglaa
open Go.RowKit
set_option linter.unusedVariables false
set_option maxRecDepth 100000

/-- How long the slice in a cell is. -/
def lenAt (w : World) (b : Nat) : Nat := match w.cell? ⟨b, 0, none⟩ with
  | some (.slice _ n _) => n
  | _ => 0
theorem lenAt_of {w0 w : World} {m : Ents} {b n c : Nat} {B : Option Addr} {t : TypeId} (h : Hp w0 w m) (hm : (b, t, [.slice B n c]) ∈ m) : lenAt w b = n := by
  unfold lenAt
  rw [(h.blk _ hm).2.cell]
  rfl
set_option maxHeartbeats 8000000 in
theorem Pick_any (BB : Option Addr) (n cb : Nat) (bl : List (List Int)) (os curB : List Value) (EO : Ents) (A : Option Addr) (la ca : Nat) (ys : List Int) (w0 w : World) (m : Ents) (H : Hid (Hp w0 w m)) (R2 : Hid (RowV 1 (.slice BB n cb) n os curB)) (HR : Hid (∀ z ∈ rowE (.slice BB n cb) 22 curB, z ∈ m)) (BR : Hid (BRs EO bl os)) (HEO : Hid (∀ z ∈ EO, z ∈ m)) (hbl : Hid (bl.length = n)) (hn : n ≤ 40) (VB : Hid (Valid bl)) (EB : Hid (EarlyB bl)) (IA : Hid (IntArg w0 A la ca ys)) :
    Calls Try.prog 13 #[.slice BB n cb, .slice A la ca] w fun e w' => ∃ (v : Value) (ps : List Int) (cur : List Value), e = .returned (.tuple #[v, .int .i64 0]) ∧ ps.length = n ∧ rightFrom bl [] ps = true ∧ RowV 1 v n (ps.map (Value.int .i64)) cur ∧ Hp w0 w' (rowE v 3 cur ++ m) := by
  have RIB := Lib.hid fun (W : World) (hW : Hld m W) => BR.out.rii R2.out (fun z hz => hW z (HEO.out z hz)) (fun z hz => hW z (HR.out z hz))
  go_enter Try.func13, Try.ntmps13
  go_wp2_with (first
      | go_skip)
  go_at_call 25
  have RB := check_ok BB cb bl _ (RIB.out _ (H.out.hld fun z hz => hz)) VB.out
  rw [hbl.out] at RB
  refine Calls.mono RB ?_
  rintro _ _ ⟨rfl, rfl⟩
  clear RB
  go_wp2_with (first
      | go_skip
      | ((with_reducible refine isAlloc ?_); refine alA H ?_ (hz := zInts); clear H; intro b7 _ H))
  go_loopw [] (fun wr => ∃ (dn : Nat) (done : List Int) (v : Value) (cur : List Value), done.length = dn ∧ dn ≤ n ∧ Hid (rightFrom bl [] done = true) ∧ Hid (RowV 1 v dn (done.map (Value.int .i64)) cur) ∧ Hid (Hp w0 wr ((b7, 22, [v]) :: (rowE v 3 cur ++ m)))) (fun wr => n - lenAt wr b7)
  case atStart => exact ⟨0, [], .slice none 0 0, [], rfl, by omega, Lib.hid (by simp [rightFrom]), Lib.hid (RowV.nil 1), H⟩
  case round =>
    clear H
    obtain ⟨dn, done, v, cur, hdl, hdn, RF, R, H⟩ := hrel
    obtain ⟨BD, cD, rfl, _⟩ := R.out.shape
    by_cases hlt : dn < n
    · go_wp2_with (first
          | go_skip
          | ((with_reducible refine isLoad ?_); refine ld1A H ?_ (hT := kInts) (hm := by (repeat (first | exact List.Mem.head _ | refine List.Mem.tail _ ?_ | refine List.mem_append_right _ ?_ | assumption)))))
      obtain ⟨wo, hwo⟩ : ∃ wo : World, wo = wr := ⟨_, rfl⟩
      subst hwo
      have LA := Lib.hid (lenAt_of H.out (.head _))
      go_loopw [8, 24] (fun vr_ i_ wr => ∃ (i : Nat) (vr : Value) (curR : List Value), vr = vr_ ∧ i_ = .int .i64 i ∧ i ≤ n ∧ Hid (RowV 1 vr (readyN bl done i).length ((readyP bl done i).map (Value.int .i64)) curR) ∧ Hid (Hp w0 wr (rowE vr 3 curR ++ ((b7, 22, [.slice BD dn cD]) :: (rowE (.slice BD dn cD) 3 cur ++ m))))) (fun _ i_ _ => n - (intOf i_).toNat)
      case atStart => exact ⟨0, .slice none 0 0, [], rfl, rfl, by omega, Lib.hid (RowV.nil 1), H⟩
      case round =>
        clear H
        obtain ⟨i, vr, curR, rfl, rfl, hi, RR, H⟩ := hrel
        obtain ⟨Br, cr, rfl, _⟩ := RR.out.shape
        by_cases hlt2 : i < n
        · have hbl2 := hbl.out
          obtain ⟨l, hl⟩ : ∃ l, bl[i]? = some l := ⟨_, List.getElem?_eq_getElem (by omega)⟩
          obtain ⟨vx, hvx, nx, hnx, hRX⟩ := BR.out.at_ hl
          obtain ⟨gB, cB', e1⟩ := R2.out.someI (by intro e; have h5 := BR.out.1; rw [e] at h5; have h6 : bl.length = 0 := h5; omega)
          obtain ⟨Bx, cx, rfl, _⟩ := hRX.shape
          have XC := (RowIn.cells_ (E := m) (by rw [← e1]; exact ⟨curB, R2.out, HR.out⟩) (H.out.hld fun z hz => List.mem_append_right _ (.tail _ (List.mem_append_right _ hz)))).2.2.2 i _ hvx
          cases e1
          have X := Lib.hid XC
          have RX := Lib.hid hRX
          have HL := Lib.hid hl
          have hgl : Hid (bl.getD i [] = l) := Lib.hid (by rw [List.getD_eq_getElem?_getD, hl]; rfl)
          have RS0 := readyP_len bl done i
          have RSU := Lib.hid (readyN_succ bl done i)
          clear XC hRX hl hvx hbl2
          have K : Hid (PickK (rowE (.slice Br (readyN bl done i).length cr) 3 curR ++ ((b7, 22, [.slice BD dn cD]) :: (rowE (.slice BD dn cD) 3 cur ++ m))) b7 (.slice BD dn cD) dn done) := Lib.hid ⟨List.mem_append_right _ (.head _), R.out.rowinA.mono fun z hz => List.mem_append_right _ (.tail _ (List.mem_append_left _ hz))⟩
          go_wp2_with (first
              | go_skip
              | ((with_reducible refine isLoad ?_); first | (refine ld1A H ?_ (hT := kInts) (hm := by (repeat (first | exact List.Mem.head _ | refine List.Mem.tail _ ?_ | refine List.mem_append_right _ ?_ | assumption)))) | (refine ld1X X ?_ (hT := kInts))))
          go_at_call 12
          obtain ⟨hri, hyl⟩ := K.out.row.ri_ (H.out.hld fun z hz => hz)
          refine (containsI_any BD dn cD done i (decide ((i : Int) ∈ done)) _ hri hyl (by omega) (Lib.hid rfl)).mono ?_
          rintro _ _ ⟨rfl, rfl⟩
          clear hri hyl
          by_cases hm : (i : Int) ∈ done
          · have hd : decide ((i : Int) ∈ done) = true := decide_eq_true hm
            have hrs : readyN bl done (i + 1) = readyN bl done i := by rw [RSU.out, if_neg (fun h => h.1 hm), List.append_nil]
            replace hrs := Lib.hid hrs
            clear hm
            go_wp2_with (first
                | go_skip)
            go_roundw
            case rel => exact ⟨i + 1, _, curR, rfl, by go_num, by omega, by unfold readyP; rw [hrs.out]; exact RR, H⟩
            case measure => simp [intOf]; omega
          · have hd : decide ((i : Int) ∈ done) = false := decide_eq_false hm
            replace hm := Lib.hid hm
            go_wp2_with (first
                | go_skip)
            go_at_call 23
            refine Calls.mono (contFP_any w0 _ _ b7 _ dn done EO l _ nx H K (by omega) RX (Lib.hid fun z hz => List.mem_append_right _ (.tail _ (List.mem_append_right _ (HEO.out z hz)))) (by omega)) ?_
            rintro _ _ ⟨rfl, h2⟩
            replace H := Lib.hid h2
            clear h2 X
            by_cases hall : ∃ z ∈ l, z ∉ done
            · have hd2 : decide (∃ z ∈ l, z ∉ done) = true := decide_eq_true hall
              have hrs : Hid (readyN bl done (i + 1) = readyN bl done i) := Lib.hid (by rw [RSU.out, if_neg (fun h => (by obtain ⟨z, h1, h2⟩ := hall; exact h2 (h.2 z (by rw [hgl.out]; exact h1)))), List.append_nil])
              clear hall
              go_wp2_with (first
                  | go_skip)
              go_roundw
              case rel => exact ⟨i + 1, _, curR, rfl, by go_num, by omega, by unfold readyP; rw [hrs.out]; exact RR, H⟩
              case measure => simp [intOf]; omega
            · have hd2 : decide (∃ z ∈ l, z ∉ done) = false := decide_eq_false hall
              have hrs : Hid (readyN bl done (i + 1) = readyN bl done i ++ [i]) := Lib.hid (by rw [RSU.out, if_pos ⟨hm.out, fun x hx => Decidable.byContradiction fun hx2 => hall ⟨x, by rw [← hgl.out]; exact hx, hx2⟩⟩])
              have hrn : (readyN bl done i).length ≤ i := by unfold readyP at RS0; simpa using RS0
              clear hall
              go_wp2_with (first
                  | go_skip
                  | ((with_reducible refine isSlc ?_); refine bsA 3 [.int .i64 i] 1 H ?_; clear H; intro gz _ H)
                  | ((with_reducible refine isApp ?_); refine wpList_appH [(gz, 3, _)] ((b7, 22, [.slice BD dn cD]) :: (rowE (.slice BD dn cD) 3 cur ++ m)) H RR (by rfl) iInt1 (by decide) Try.underlying22 (by rfl) (by rfl) (by rfl) (by rfl) (.head _) (by rfl) (by rfl) (by omega) (by simp only [maxLen]; omega) (by omega) ?_; clear H RR; intro v3 cur3 _ RR H; simp only [List.cons_append, List.nil_append] at H; obtain ⟨B3, c3, rfl, _⟩ := RR.out.shape))
              have RR' : Hid (RowV 1 (.slice B3 ((readyN bl done i).length + 1) c3) (readyN bl done (i + 1)).length ((readyP bl done (i + 1)).map (Value.int .i64)) cur3) := Lib.hid (by
                unfold readyP at RR ⊢
                rw [hrs.out, List.length_append, List.length_singleton, List.map_append, List.map_append]
                exact RR.out)
              go_roundw
              case rel => exact ⟨i + 1, _, cur3, rfl, by go_num, by omega, RR', Lib.hid H.out.drop⟩
              case measure => simp [intOf]; omega
        · obtain rfl : i = n := by omega
          have hrd := readyP_some (done := done) EB.out (by rw [hbl.out]; omega)
          rw [hbl.out] at hrd
          obtain ⟨rn, hrn⟩ : ∃ rn, (readyN bl done i).length = rn := ⟨_, rfl⟩
          have hrl : (readyP bl done i).length = rn := by unfold readyP; simpa using hrn
          have hrle := readyP_len bl done i
          rw [hrn] at RR H ⊢
          rw [hrl] at hrd hrle
          have HRL := Lib.hid hrl
          obtain ⟨gr, cr', e1⟩ := RR.out.someI (by intro e; rw [List.map_eq_nil_iff] at e; rw [e] at hrl; simp at hrl; omega)
          cases e1
          replace H := (show Hid (Hp w0 _ ((gr, 3, curR) :: ((b7, 22, [.slice BD dn cD]) :: (rowE (.slice BD dn cD) 3 cur ++ m)))) from H)
          clear hrn hrl
          by_cases hby : dn < la
          · obtain ⟨u, hu⟩ : ∃ u, ys[dn]? = some u := ⟨_, List.getElem?_eq_getElem (by rw [IA.out.1]; omega)⟩
            obtain ⟨bb, oo, rfl, hbb, hcc⟩ := (IA.out.ri H.out.bel) (by have := lt_of_at hu; omega)
            have X := Lib.hid (hcc dn u hu)
            have hmb := mod_below u rn (by omega)
            have hb1 := Int.tmod_lt_of_pos u (show (0 : Int) < rn by omega)
            have hb2 : -(rn : Int) < u.tmod rn := by have h4 := Int.tmod_eq_emod (a := u) (b := (rn : Int)); have h5 := Int.emod_nonneg u (show (rn : Int) ≠ 0 by omega); have h6 := Int.emod_lt_of_pos u (show (0 : Int) < rn by omega); split at h4 <;> omega
            obtain ⟨t, ht⟩ : ∃ t, u.tmod (rn : Int) = t := ⟨_, rfl⟩
            rw [ht] at hb1 hb2
            clear hcc hu hmb
            have hnz : ((rn : Int) == 0) = false := by rw [beq_eq_false_iff_ne]; omega
            have htw : IntKind.i64.wrap t = t := IntWalk.i64_in _ (by omega)
            by_cases h0 : t < 0
            · have hd : decide (t < 0) = true := decide_eq_true h0
              obtain ⟨j, hj⟩ := Int.eq_ofNat_of_zero_le (show 0 ≤ t + rn by omega)
              have hjw : IntKind.i64.wrap (t + rn) = (j : Int) := by rw [IntWalk.i64_in _ (by omega)]; exact hj
              have hjr : j < rn := by omega
              clear hj
              go_wp2_with (first
                  | go_skip
                  | ((with_reducible refine isLoad ?_); refine ld1A H ?_ (hT := kInts) (hm := by (repeat (first | exact List.Mem.head _ | refine List.Mem.tail _ ?_ | refine List.mem_append_right _ ?_ | assumption))))
                  | ((with_reducible refine isLoad ?_); refine ld1X X ?_ (hT := kIntA)))
              obtain ⟨z, hz⟩ : ∃ z, (readyP bl done i)[j]? = some z := ⟨_, List.getElem?_eq_getElem (by rw [HRL.out]; omega)⟩
              have ZM := Lib.hid (readyP_mem (List.mem_of_getElem? hz))
              have ZX := Lib.hid fun (W : World) (hW : Hld [(gr, 3, curR)] W) => (RowIn.cells_ (E := [(gr, 3, curR)]) ⟨curR, RR.out, fun x hx => hx⟩ hW).2.2.2 j (.int .i64 z) (by rw [List.getElem?_map, hz]; rfl)
              clear hz
              refine wp_region_Y 7 [.c (.slice BD dn cD), .c (.slice (some ⟨gr, 0, none⟩) rn cr), .c (.int .i64 j), .c (.pointer (some ⟨gr, j, none⟩)), .c (.int .i64 z), .a, .y] ((gr, 3, curR) :: (b7, 22, [.slice BD dn cD]) :: m) H (by (repeat (first | exact List.Sublist.refl _ | refine List.Sublist.cons_cons _ ?_ | refine List.Sublist.append_left ?_ _ | refine List.Sublist.trans ?_ (List.sublist_append_right _ _) | refine List.Sublist.cons _ ?_))) (by kernel_rfl) (by kernel_rfl) (by kernel_rfl) ?_
              simp only [List.take_succ_cons, List.take_zero, List.drop_succ_cons, List.drop_zero]
              refine wpY_load1 (by rfl) (by rfl) (by (first | exact wanted_none rfl | exact wanted_some rfl rfl)) kInts (by rfl) (by (repeat (first | exact List.Mem.head _ | refine List.Mem.tail _ ?_ | refine List.mem_append_right _ ?_ | assumption))) (by rfl) ?_
              (simp only [Act.put, List.setIfInBounds_toArray, List.set_cons_succ, List.set_cons_zero])
              refine wpY_c (by rfl) (by (first | exact wanted_none rfl | exact wanted_some rfl rfl)) (by intro W _; first | (go_simp; rfl) | (go_simp; done) | (trace_state; fail)) ?_
              (simp only [Act.put, List.setIfInBounds_toArray, List.set_cons_succ, List.set_cons_zero])
              refine wpY_c (by rfl) (by (first | exact wanted_none rfl | exact wanted_some rfl rfl)) (by intro W _; first | (go_simp; rfl) | (go_simp; done) | (trace_state; fail)) ?_
              (simp only [Act.put, List.setIfInBounds_toArray, List.set_cons_succ, List.set_cons_zero])
              refine wpY_c (by rfl) (by (first | exact wanted_none rfl | exact wanted_some rfl rfl)) (by intro W _; first | (go_simp; rfl) | (go_simp; done) | (trace_state; fail)) ?_
              (simp only [Act.put, List.setIfInBounds_toArray, List.set_cons_succ, List.set_cons_zero])
              refine wpY_loadX (by rfl) (by rfl) (by (first | exact wanted_none rfl | exact wanted_some rfl rfl)) kIntA (by rfl) (by intro W HW; exact ZX.out W (HW.out.hld fun y hy => by rw [List.mem_singleton] at hy; subst hy; exact .head _)) ?_
              (simp only [Act.put, List.setIfInBounds_toArray, List.set_cons_succ, List.set_cons_zero])
              refine wpY_V 3 ([.int .i64 z]) 1 (by rfl) (by rfl) (by intro W; kernel_rfl) ?_
              intro gz
              (simp only [Act.put, List.setIfInBounds_toArray, List.set_cons_succ, List.set_cons_zero])
              refine wpY_app [(gz, 3, [.int .i64 z]), (gr, 3, curR), (b7, 22, [.slice BD dn cD])] m (by rfl) (by (first | exact wanted_none rfl | exact wanted_some rfl rfl)) R iInt1 (by decide) Try.underlying22 (by rfl) (by rfl) (by rfl) (.head _) (by rfl) (by rfl) (by omega) (by unfold maxLen; omega) (by omega) (by rfl) (by intro z hz; simp only [List.cons_append, List.nil_append, List.mem_cons] at hz ⊢; rcases hz with h | h | h <;> simp [h]) (fun v3 cur3 R3 => ?_)
              (simp only [Act.put, List.setIfInBounds_toArray, List.set_cons_succ, List.set_cons_zero])
              refine wpY_nil ?_
              clear H
              intro _ H
              simp only [List.cons_append, List.nil_append] at H
              obtain ⟨B3, c3, rfl, _⟩ := R3.out.shape
              go_wp2_with (first
                  | go_skip
                  | ((with_reducible refine isStore ?_); refine st1A (v := .slice B3 (dn + 1) c3) H ?_ (hT := sInts); clear H; intro _ H))
              have LA2 := lenAt_of H.out (b := b7) (.tail _ (.tail _ (.head _)))
              go_roundw
              case rel => exact ⟨dn + 1, done ++ [z], _, cur3, by simp [hdl], by omega, Lib.hid (rightFrom_snoc RF.out ZM.out.1 (by have := ZM.out.2.1; have := hbl.out; omega) ZM.out.2.2.1 ZM.out.2.2.2), by rw [List.map_append]; exact R3, Lib.hid H.out.drop.drop⟩
              case measure => rw [LA2, LA.out]; omega
            · have hd : decide (t < 0) = false := decide_eq_false h0
              obtain ⟨j, rfl⟩ := Int.eq_ofNat_of_zero_le (show 0 ≤ t by omega)
              have hjr : j < rn := by omega
              go_wp2_with (first
                  | go_skip
                  | ((with_reducible refine isLoad ?_); refine ld1A H ?_ (hT := kInts) (hm := by (repeat (first | exact List.Mem.head _ | refine List.Mem.tail _ ?_ | refine List.mem_append_right _ ?_ | assumption))))
                  | ((with_reducible refine isLoad ?_); refine ld1X X ?_ (hT := kIntA)))
              obtain ⟨z, hz⟩ : ∃ z, (readyP bl done i)[j]? = some z := ⟨_, List.getElem?_eq_getElem (by rw [HRL.out]; omega)⟩
              have ZM := Lib.hid (readyP_mem (List.mem_of_getElem? hz))
              have ZX := Lib.hid fun (W : World) (hW : Hld [(gr, 3, curR)] W) => (RowIn.cells_ (E := [(gr, 3, curR)]) ⟨curR, RR.out, fun x hx => hx⟩ hW).2.2.2 j (.int .i64 z) (by rw [List.getElem?_map, hz]; rfl)
              clear hz
              refine wp_region_Y 7 [.c (.slice BD dn cD), .c (.slice (some ⟨gr, 0, none⟩) rn cr), .c (.int .i64 j), .c (.pointer (some ⟨gr, j, none⟩)), .c (.int .i64 z), .a, .y] ((gr, 3, curR) :: (b7, 22, [.slice BD dn cD]) :: m) H (by (repeat (first | exact List.Sublist.refl _ | refine List.Sublist.cons_cons _ ?_ | refine List.Sublist.append_left ?_ _ | refine List.Sublist.trans ?_ (List.sublist_append_right _ _) | refine List.Sublist.cons _ ?_))) (by kernel_rfl) (by kernel_rfl) (by kernel_rfl) ?_
              simp only [List.take_succ_cons, List.take_zero, List.drop_succ_cons, List.drop_zero]
              refine wpY_load1 (by rfl) (by rfl) (by (first | exact wanted_none rfl | exact wanted_some rfl rfl)) kInts (by rfl) (by (repeat (first | exact List.Mem.head _ | refine List.Mem.tail _ ?_ | refine List.mem_append_right _ ?_ | assumption))) (by rfl) ?_
              (simp only [Act.put, List.setIfInBounds_toArray, List.set_cons_succ, List.set_cons_zero])
              refine wpY_c (by rfl) (by (first | exact wanted_none rfl | exact wanted_some rfl rfl)) (by intro W _; first | (go_simp; rfl) | (go_simp; done) | (trace_state; fail)) ?_
              (simp only [Act.put, List.setIfInBounds_toArray, List.set_cons_succ, List.set_cons_zero])
              refine wpY_c (by rfl) (by (first | exact wanted_none rfl | exact wanted_some rfl rfl)) (by intro W _; first | (go_simp; rfl) | (go_simp; done) | (trace_state; fail)) ?_
              (simp only [Act.put, List.setIfInBounds_toArray, List.set_cons_succ, List.set_cons_zero])
              refine wpY_c (by rfl) (by (first | exact wanted_none rfl | exact wanted_some rfl rfl)) (by intro W _; first | (go_simp; rfl) | (go_simp; done) | (trace_state; fail)) ?_
              (simp only [Act.put, List.setIfInBounds_toArray, List.set_cons_succ, List.set_cons_zero])
              refine wpY_loadX (by rfl) (by rfl) (by (first | exact wanted_none rfl | exact wanted_some rfl rfl)) kIntA (by rfl) (by intro W HW; exact ZX.out W (HW.out.hld fun y hy => by rw [List.mem_singleton] at hy; subst hy; exact .head _)) ?_
              (simp only [Act.put, List.setIfInBounds_toArray, List.set_cons_succ, List.set_cons_zero])
              refine wpY_V 3 ([.int .i64 z]) 1 (by rfl) (by rfl) (by intro W; kernel_rfl) ?_
              intro gz
              (simp only [Act.put, List.setIfInBounds_toArray, List.set_cons_succ, List.set_cons_zero])
              refine wpY_app [(gz, 3, [.int .i64 z]), (gr, 3, curR), (b7, 22, [.slice BD dn cD])] m (by rfl) (by (first | exact wanted_none rfl | exact wanted_some rfl rfl)) R iInt1 (by decide) Try.underlying22 (by rfl) (by rfl) (by rfl) (.head _) (by rfl) (by rfl) (by omega) (by unfold maxLen; omega) (by omega) (by rfl) (by intro z hz; simp only [List.cons_append, List.nil_append, List.mem_cons] at hz ⊢; rcases hz with h | h | h <;> simp [h]) (fun v3 cur3 R3 => ?_)
              (simp only [Act.put, List.setIfInBounds_toArray, List.set_cons_succ, List.set_cons_zero])
              refine wpY_nil ?_
              clear H
              intro _ H
              simp only [List.cons_append, List.nil_append] at H
              obtain ⟨B3, c3, rfl, _⟩ := R3.out.shape
              go_wp2_with (first
                  | go_skip
                  | ((with_reducible refine isStore ?_); refine st1A (v := .slice B3 (dn + 1) c3) H ?_ (hT := sInts); clear H; intro _ H))
              have LA2 := lenAt_of H.out (b := b7) (.tail _ (.tail _ (.head _)))
              go_roundw
              case rel => exact ⟨dn + 1, done ++ [z], _, cur3, by simp [hdl], by omega, Lib.hid (rightFrom_snoc RF.out ZM.out.1 (by have := ZM.out.2.1; have := hbl.out; omega) ZM.out.2.2.1 ZM.out.2.2.2), by rw [List.map_append]; exact R3, Lib.hid H.out.drop.drop⟩
              case measure => rw [LA2, LA.out]; omega
          · have hdl2 : decide ((dn : Int) < la) = false := decide_eq_false (by omega)
            go_wp2_with (first
                | go_skip
                | ((with_reducible refine isLoad ?_); refine ld1A H ?_ (hT := kInts) (hm := by (repeat (first | exact List.Mem.head _ | refine List.Mem.tail _ ?_ | refine List.mem_append_right _ ?_ | assumption)))))
            obtain ⟨z, hz⟩ : ∃ z, (readyP bl done i)[0]? = some z := ⟨_, List.getElem?_eq_getElem (by rw [HRL.out]; omega)⟩
            have ZM := Lib.hid (readyP_mem (List.mem_of_getElem? hz))
            have ZX := Lib.hid fun (W : World) (hW : Hld [(gr, 3, curR)] W) => (RowIn.cells_ (E := [(gr, 3, curR)]) ⟨curR, RR.out, fun x hx => hx⟩ hW).2.2.2 0 (.int .i64 z) (by rw [List.getElem?_map, hz]; rfl)
            clear hz
            refine wp_region_Y 7 [.c (.slice BD dn cD), .c (.slice (some ⟨gr, 0, none⟩) rn cr), .c (.int .i64 0), .c (.pointer (some ⟨gr, 0, none⟩)), .c (.int .i64 z), .a, .y] ((gr, 3, curR) :: (b7, 22, [.slice BD dn cD]) :: m) H (by (repeat (first | exact List.Sublist.refl _ | refine List.Sublist.cons_cons _ ?_ | refine List.Sublist.append_left ?_ _ | refine List.Sublist.trans ?_ (List.sublist_append_right _ _) | refine List.Sublist.cons _ ?_))) (by kernel_rfl) (by kernel_rfl) (by kernel_rfl) ?_
            simp only [List.take_succ_cons, List.take_zero, List.drop_succ_cons, List.drop_zero]
            refine wpY_load1 (by rfl) (by rfl) (by (first | exact wanted_none rfl | exact wanted_some rfl rfl)) kInts (by rfl) (by (repeat (first | exact List.Mem.head _ | refine List.Mem.tail _ ?_ | refine List.mem_append_right _ ?_ | assumption))) (by rfl) ?_
            (simp only [Act.put, List.setIfInBounds_toArray, List.set_cons_succ, List.set_cons_zero])
            refine wpY_c (by rfl) (by (first | exact wanted_none rfl | exact wanted_some rfl rfl)) (by intro W _; first | (go_simp; rfl) | (go_simp; done) | (trace_state; fail)) ?_
            (simp only [Act.put, List.setIfInBounds_toArray, List.set_cons_succ, List.set_cons_zero])
            refine wpY_c (by rfl) (by (first | exact wanted_none rfl | exact wanted_some rfl rfl)) (by intro W _; first | (go_simp; rfl) | (go_simp; done) | (trace_state; fail)) ?_
            (simp only [Act.put, List.setIfInBounds_toArray, List.set_cons_succ, List.set_cons_zero])
            refine wpY_c (by rfl) (by (first | exact wanted_none rfl | exact wanted_some rfl rfl)) (by intro W _; first | (go_simp; rfl) | (go_simp; done) | (trace_state; fail)) ?_
            (simp only [Act.put, List.setIfInBounds_toArray, List.set_cons_succ, List.set_cons_zero])
            refine wpY_loadX (by rfl) (by rfl) (by (first | exact wanted_none rfl | exact wanted_some rfl rfl)) kIntA (by rfl) (by intro W HW; exact ZX.out W (HW.out.hld fun y hy => by rw [List.mem_singleton] at hy; subst hy; exact .head _)) ?_
            (simp only [Act.put, List.setIfInBounds_toArray, List.set_cons_succ, List.set_cons_zero])
            refine wpY_V 3 ([.int .i64 z]) 1 (by rfl) (by rfl) (by intro W; kernel_rfl) ?_
            intro gz
            (simp only [Act.put, List.setIfInBounds_toArray, List.set_cons_succ, List.set_cons_zero])
            refine wpY_app [(gz, 3, [.int .i64 z]), (gr, 3, curR), (b7, 22, [.slice BD dn cD])] m (by rfl) (by (first | exact wanted_none rfl | exact wanted_some rfl rfl)) R iInt1 (by decide) Try.underlying22 (by rfl) (by rfl) (by rfl) (.head _) (by rfl) (by rfl) (by omega) (by unfold maxLen; omega) (by omega) (by rfl) (by intro z hz; simp only [List.cons_append, List.nil_append, List.mem_cons] at hz ⊢; rcases hz with h | h | h <;> simp [h]) (fun v3 cur3 R3 => ?_)
            (simp only [Act.put, List.setIfInBounds_toArray, List.set_cons_succ, List.set_cons_zero])
            refine wpY_nil ?_
            clear H
            intro _ H
            simp only [List.cons_append, List.nil_append] at H
            obtain ⟨B3, c3, rfl, _⟩ := R3.out.shape
            go_wp2_with (first
                | go_skip
                | ((with_reducible refine isStore ?_); refine st1A (v := .slice B3 (dn + 1) c3) H ?_ (hT := sInts); clear H; intro _ H))
            have LA2 := lenAt_of H.out (b := b7) (.tail _ (.tail _ (.head _)))
            go_roundw
            case rel => exact ⟨dn + 1, done ++ [z], _, cur3, by simp [hdl], by omega, Lib.hid (rightFrom_snoc RF.out ZM.out.1 (by have := ZM.out.2.1; have := hbl.out; omega) ZM.out.2.2.1 ZM.out.2.2.2), by rw [List.map_append]; exact R3, Lib.hid H.out.drop.drop⟩
            case measure => rw [LA2, LA.out]; omega
    · obtain rfl : dn = n := by omega
      go_wp2_with (first
          | go_skip
          | ((with_reducible refine isLoad ?_); refine ld1A H ?_ (hT := kInts) (hm := by (repeat (first | exact List.Mem.head _ | refine List.Mem.tail _ ?_ | refine List.mem_append_right _ ?_ | assumption)))))
      go_ret2
      exact ⟨_, done, cur, rfl, hdl, RF.out, R.out, H.out.drop⟩
end Go.Proofs.Ytbhbbnmllokglaa

namespace Go.Proofs.Ytbhbbnmllokglaa
open Go.RowKit
set_option linter.unusedVariables false
set_option maxRecDepth 100000

theorem pickS_snoc {ss : List St} {ps : List Int} {i : Nat} {z : Int} {s : St} (h : ps[i]? = some z) (hs : ss[z.toNat]? = some s) : pickS ss (ps.take (i + 1)) = pickS ss (ps.take i) ++ [s] := by
  unfold pickS
  rw [List.take_add_one, h, List.map_append]
  congr 1
  show [ss.getD z.toNat _] = [s]
  rw [List.getD_eq_getElem?_getD, hs]
  rfl
theorem not_mem_take {ps : List Int} {i : Nat} {z : Int} (hn : ps.Nodup) (h : ps[i]? = some z) : z ∉ ps.take i := by
  intro hm
  obtain ⟨j, hj, hz⟩ := mem_takeI.1 hm
  obtain ⟨h1, e1⟩ := List.getElem?_eq_some_iff.1 h
  obtain ⟨h2, e2⟩ := List.getElem?_eq_some_iff.1 hz
  exact List.pairwise_iff_getElem.1 hn j i h2 h1 hj (e2.trans e1.symm)
set_option maxHeartbeats 8000000 in
theorem Apply_any (A : Option Addr) (k c : Nat) (ss : List St) (B : Option Addr) (cp : Nat) (ps : List Int) (w0 w : World) (m E2 E3 : Ents) (H : Hid (Hp w0 w m)) (RS_ : Hid (RowIn E2 79 5 (.slice A k c) k (flat St.cells ss))) (HE2 : Hid (∀ y ∈ E2, y ∈ m)) (hk : Hid (ss.length = k)) (RP : Hid (RowIn E3 3 1 (.slice B k cp) k (ps.map (Value.int .i64)))) (HE3 : Hid (∀ y ∈ E3, y ∈ m)) (hpl : Hid (ps.length = k)) (hk40 : k ≤ 40) (hin : Hid (∀ z ∈ ps, 0 ≤ z ∧ z < k)) (hnd : Hid ps.Nodup) :
    Calls Try.prog 14 #[.slice A k c, .slice B k cp] w fun e w' => ∃ (v : Value) (cur : List Value), e = .returned (.tuple #[v, .int .i64 0]) ∧ RowV 5 v k (flat St.cells (pickS ss ps)) cur ∧ Hp w0 w' (rowE v 79 cur ++ m) := by
  have hkc := RP.out.shape
  obtain ⟨_, cp', e0, hcp⟩ := hkc
  cases e0
  go_enter Try.func14, Try.ntmps14
  go_wp2_with (first
      | go_skip)
  go_loopw [6, 16] (fun v_ i_ wr => ∃ (i : Nat) (v : Value) (cur : List Value), v = v_ ∧ i_ = .int .i64 i ∧ i ≤ k ∧ Hid (RowV 5 v i (flat St.cells (pickS ss (ps.take i))) cur) ∧ Hid (Hp w0 wr (rowE v 79 cur ++ m))) (fun _ i_ _ => k - (intOf i_).toNat)
  case atStart => exact ⟨0, .slice none 0 0, [], rfl, rfl, by omega, Lib.hid (RowV.nil 5), H⟩
  case round =>
    clear H
    obtain ⟨i, v, cur, rfl, rfl, hi, R, H⟩ := hrel
    obtain ⟨Bv, cv, rfl, _⟩ := R.out.shape
    by_cases hlt : i < k
    · obtain ⟨z, hz⟩ : ∃ z, ps[i]? = some z := ⟨_, List.getElem?_eq_getElem (by rw [hpl.out]; exact hlt)⟩
      have hzb := hin.out z (List.mem_of_getElem? hz)
      obtain ⟨q, rfl⟩ := Int.eq_ofNat_of_zero_le hzb.1
      have hqk : q < k := by omega
      obtain ⟨s, hs⟩ : ∃ s, ss[q]? = some s := ⟨_, List.getElem?_eq_getElem (by rw [hk.out]; exact hqk)⟩
      obtain ⟨gp, c', e1⟩ : ∃ g c', (.slice B k cp : Value) = .slice (some ⟨g, 0, none⟩) k c' := by
        obtain ⟨cu, q1, _⟩ := RP.out
        exact q1.someI (by intro e; have h := lt_of_at hz; simp at e; rw [e] at h; simp at h)
      cases e1
      have hHm : Hld m wr := H.out.hld (fun z hz => List.mem_append_right _ hz)
      have X := Lib.hid ((RP.out.cells_ (fun z hz => hHm z (HE3.out z hz))).2.2.2 i (.int .i64 q) (by rw [List.getElem?_map, hz]; rfl))
      have RI_ := Lib.hid ((RP.out.ri_ (fun z hz => hHm z (HE3.out z hz))).1.take_ i)
      have hkcp := (RP.out.cells_ (fun z hz => hHm z (HE3.out z hz))).2.1
      have hicp : i ≤ cp := by omega
      have hti : (ps.take i).length = i := by rw [List.length_take, hpl.out]; omega
      have hnm : Hid (false = decide ((q : Int) ∈ ps.take i)) := Lib.hid (decide_eq_false (not_mem_take hnd.out hz)).symm
      obtain ⟨gs, c2, e2_, hr⟩ := RS_.out.at_ St.len hs (by decide)
      injection e2_ with e2_ _ e3_
      subst e2_
      have XS := Lib.hid (hr _ (fun z hz => hHm z (HE2.out z hz)))
      have HZ := Lib.hid hz
      have HS := Lib.hid hs
      clear hr e3_ hs hz hzb hHm
      have hd1 : decide ((q : Int) < 0) = false := decide_eq_false (by omega)
      have hd2 : decide ((k : Int) ≤ (q : Int)) = false := decide_eq_false (by omega)
      go_wp2_with (first
          | go_skip
          | ((with_reducible refine isLoad ?_); first | (refine ld1X X ?_ (hT := kIntA))))
      go_at_call 12
      refine (containsI_any _ i _ (ps.take i) q false _ RI_.out hti (by omega) hnm).mono ?_
      rintro _ _ ⟨rfl, rfl⟩
      go_wp2_with (first
          | go_skip
          | ((with_reducible refine isLoad ?_); refine ldX (cs := [.int .i64 s.kind, .int .i64 s.arm, .int .i64 s.part, .int .i64 s.slot, .int .i64 s.ticks]) XS ?_ (hT := rStp))
          | ((with_reducible refine isSlc ?_); refine bsA 79 [.int .i64 s.kind, .int .i64 s.arm, .int .i64 s.part, .int .i64 s.slot, .int .i64 s.ticks] 1 H ?_; clear H; intro gz _ H)
          | ((with_reducible refine isApp ?_); refine wpList_appH [(gz, 79, [.int .i64 s.kind, .int .i64 s.arm, .int .i64 s.part, .int .i64 s.slot, .int .i64 s.ticks])] m H R (by rfl) iStp (by decide) Try.underlying37 (by rfl) (by rfl) (by rfl) (by rfl) (.head _) (by rfl) (by rfl) (by omega) (by simp only [maxLen]; omega) (by omega) ?_; clear H; intro v3 cur3 _ R3 H; simp only [List.cons_append, List.nil_append] at H))
      have R' : Hid (RowV 5 v3 (i + 1) (flat St.cells (pickS ss (ps.take (i + 1)))) cur3) := Lib.hid (by
        rw [pickS_snoc HZ.out (by simpa using HS.out), show flat St.cells (pickS ss (ps.take i) ++ [s]) = flat St.cells (pickS ss (ps.take i)) ++ s.cells by simp [flat]]
        exact R3.out)
      go_roundw
      case rel => exact ⟨i + 1, v3, cur3, rfl, by go_num, by omega, R', Lib.hid H.out.drop⟩
      case measure => simp [intOf]; omega
    · obtain rfl : i = k := by omega
      go_wp2_with (first
          | go_skip)
      go_ret2
      refine ⟨_, cur, rfl, ?_, H.out⟩
      have := R.out
      rwa [List.take_of_length_le (by rw [hpl.out]; omega)] at this
end Go.Proofs.Ytbhbbnmllokglaa

namespace Go.Proofs.Ytbhbbnmllokglaa
open Go.RowKit
set_option linter.unusedVariables false
set_option maxRecDepth 100000

set_option maxHeartbeats 8000000 in
theorem OrderSame_any (A B D G : Option Addr) (la ca lb cb ld cd lg cg : Nat) (xs ys zs us : List Int) (w : World) (hi : IntArg w A la ca xs) (hj : IntArg w B lb cb ys) (hl : IntArg w D ld cd zs) (hg : IntArg w G lg cg us) :
    Calls Try.prog 4 #[.slice A la ca, .slice B lb cb, .slice D ld cd, .slice G lg cg] w fun e w' => e = .returned (.bool true) ∧ Below w.heap.size w w' := by
  have H := Lib.hid (Hp.start (w := w) trivial)
  have IB := Lib.hid hj
  have ID := Lib.hid hl
  have IA := Lib.hid hi
  have IG := Lib.hid hg
  clear hi hj hl hg
  go_enter Try.func4, Try.ntmps4
  go_wp2_with (first
      | go_skip
      | ((with_reducible refine isLoad ?_); refine ldA H ?_ (hT := by first | exact rWld | exact rStp) (hm := by (repeat (first | exact List.Mem.head _ | refine List.Mem.tail _ ?_ | refine List.mem_append_right _ ?_ | assumption))))
      | ((with_reducible refine isAlloc ?_); refine alA H ?_ (hz := zWld); clear H; intro b9 _ H)
      | ((with_reducible refine isStore ?_); refine stA H ?_ (hT := by first | exact rWld | exact rStp) (hu := by (repeat (first | apply Upd.head | apply Upd.tail | apply Upd.appA | assumption))); clear H; intro _ H))
  go_at_call 6
  refine (Small_any A la ca xs _ IA.out).mono ?_
  rintro _ w1 ⟨na, np, ns, P1, P2, P3, e1, e2, e3, rfl, hna, hnp, hns, _, hb⟩
  replace H := Lib.hid (H.out.go hb)
  replace IB := Lib.hid (IB.out.below hb)
  clear hb
  go_wp2_with (first
      | go_skip
      | ((with_reducible refine isLoad ?_); refine ldA H ?_ (hT := by first | exact rWld | exact rStp) (hm := by (repeat (first | exact List.Mem.head _ | refine List.Mem.tail _ ?_ | refine List.mem_append_right _ ?_ | assumption))))
      | ((with_reducible refine isAlloc ?_); refine alA H ?_ (hz := zWld); clear H; intro b9 _ H)
      | ((with_reducible refine isStore ?_); refine stA H ?_ (hT := by first | exact rWld | exact rStp) (hu := by (repeat (first | apply Upd.head | apply Upd.tail | apply Upd.appA | assumption))); clear H; intro _ H))
  go_at_call 5
  refine (World_any na np ns P1 P2 P3 e1 e2 e3 B lb cb ys _ IB.out hna hnp hns).mono ?_
  rintro _ w2 ⟨x, g1, g2, g3, d1, d2, d3, rfl, ho, hv, hxs, hb⟩
  obtain ⟨E0, hW, h2⟩ := H.out.madeW hb (Nat.le_refl _) ho
  replace H := Lib.hid h2
  have WX := Lib.hid hW
  have VX := Lib.hid hv
  clear ho hW h2 hb hv hxs IB
  go_wp2_with (first
      | go_skip
      | ((with_reducible refine isLoad ?_); refine ldA H ?_ (hT := by first | exact rWld | exact rStp) (hm := by (repeat (first | exact List.Mem.head _ | refine List.Mem.tail _ ?_ | refine List.mem_append_right _ ?_ | assumption))))
      | ((with_reducible refine isAlloc ?_); refine alA H ?_ (hz := zWld); clear H; intro b9 _ H)
      | ((with_reducible refine isStore ?_); refine stA H ?_ (hT := by first | exact rWld | exact rStp) (hu := by (repeat (first | apply Upd.head | apply Upd.tail | apply Upd.appA | assumption))); clear H; intro _ H))
  go_at_call 7
  refine Calls.mono (Walk_any x g1 g2 g3 np na d1 d2 d3 D ld cd zs w _ _ E0 H (Lib.hid (fun z hz => by simp [hz])) WX VX (by omega) (by omega) ID) ?_
  rintro _ _ ⟨v, ss, cur, y, h1, h2, h3, f1, f2, f3, E1, EY, rfl, hrl, hsl, _, hys, hWY, hR, hEY, h4⟩
  obtain ⟨BS, cs, rfl, _⟩ := hR.shape
  obtain ⟨k, hk⟩ : ∃ k, ss.length = k := ⟨_, rfl⟩
  rw [hk] at hR h4 hsl
  replace H := Lib.hid h4
  have RS_ := Lib.hid hR
  have HK := Lib.hid hk
  have RL := Lib.hid hrl
  have WY := Lib.hid hWY
  have HEY := Lib.hid hEY
  rw [hk]
  clear h4 hR hk hrl hWY hEY hys
  go_wp2_with (first
      | go_skip
      | ((with_reducible refine isLoad ?_); refine ldA H ?_ (hT := by first | exact rWld | exact rStp) (hm := by (repeat (first | exact List.Mem.head _ | refine List.Mem.tail _ ?_ | refine List.mem_append_right _ ?_ | assumption))))
      | ((with_reducible refine isAlloc ?_); refine alA H ?_ (hz := zWld); clear H; intro b11 _ H)
      | ((with_reducible refine isStore ?_); refine stA H ?_ (hT := by first | exact rWld | exact rStp) (hu := by (repeat (first | apply Upd.head | apply Upd.tail | apply Upd.appA | assumption))); clear H; intro _ H))
  go_at_call 8
  refine Calls.mono (Before_any x g1 g2 g3 np na d1 d2 d3 BS k cs ss y w _ _ E0 _ H (Lib.hid (fun z hz => by simp [hz])) WX VX (by omega) (by omega) (Lib.hid RS_.out.rowinA) (Lib.hid (fun z hz => .tail _ (List.mem_append_left _ hz))) HK (by omega) RL) ?_
  rintro _ _ ⟨v, os, cur2, tts, bl, EO, rfl, _, hTT, hbl, hbb, hR2, hBR, h4⟩
  obtain ⟨BB, cb2, rfl, _⟩ := hR2.shape
  replace H := Lib.hid h4
  have R2 := Lib.hid hR2
  have BR := Lib.hid hBR
  have HBL := Lib.hid hbl
  have VB := Lib.hid (befP_valid tts bl hbl (by omega) hbb)
  have EB := Lib.hid (befP_early tts bl hbl hbb)
  have SAME := Lib.hid fun (ps : List Int) (hr : rightFrom bl [] ps = true) (hp : ps.length = k) => order_same RL.out HK.out hTT hbl hbb hr hp
  clear h4 hR2 hBR hbl hbb hTT
  go_wp2_with (first
      | go_skip
      | ((with_reducible refine isLoad ?_); refine ldA H ?_ (hT := by first | exact rWld | exact rStp) (hm := by (repeat (first | exact List.Mem.head _ | refine List.Mem.tail _ ?_ | refine List.mem_append_right _ ?_ | assumption))))
      | ((with_reducible refine isAlloc ?_); refine alA H ?_ (hz := zWld); clear H; intro b11 _ H)
      | ((with_reducible refine isStore ?_); refine stA H ?_ (hT := by first | exact rWld | exact rStp) (hu := by (repeat (first | apply Upd.head | apply Upd.tail | apply Upd.appA | assumption))); clear H; intro _ H))
  go_at_call 13
  refine Calls.mono (Pick_any BB k cb2 bl os cur2 EO G lg cg us w _ _ H R2 (Lib.hid fun z hz => List.mem_append_left _ hz) BR (Lib.hid fun z hz => List.mem_append_right _ (List.mem_append_left _ hz)) HBL (by omega) VB EB IG) ?_
  rintro _ _ ⟨v, ps, cur3, rfl, hpl, hrf, hR3, h4⟩
  obtain ⟨BP, cp, rfl, _⟩ := hR3.shape
  replace H := Lib.hid h4
  have R3 := Lib.hid hR3
  have HPL := Lib.hid hpl
  have RF := Lib.hid hrf
  have RFS := Lib.hid (rightFrom_spec hrf)
  clear h4 hR3 hpl hrf
  go_wp2_with (first
      | go_skip
      | ((with_reducible refine isLoad ?_); refine ldA H ?_ (hT := by first | exact rWld | exact rStp) (hm := by (repeat (first | exact List.Mem.head _ | refine List.Mem.tail _ ?_ | refine List.mem_append_right _ ?_ | assumption))))
      | ((with_reducible refine isAlloc ?_); refine alA H ?_ (hz := zWld); clear H; intro b11 _ H)
      | ((with_reducible refine isStore ?_); refine stA H ?_ (hT := by first | exact rWld | exact rStp) (hu := by (repeat (first | apply Upd.head | apply Upd.tail | apply Upd.appA | assumption))); clear H; intro _ H))
  go_at_call 14
  refine Calls.mono (Apply_any BS k cs ss BP cp ps w _ _ _ _ H (Lib.hid RS_.out.rowinA) (Lib.hid (fun z hz => List.mem_append_right _ (List.mem_append_right _ (List.mem_append_right _ (.tail _ (List.mem_append_left _ hz)))))) HK (Lib.hid R3.out.rowinA) (Lib.hid (fun z hz => List.mem_append_left _ hz)) HPL (by omega) (Lib.hid fun z hz => by have := RFS.out.1 z hz; have := HBL.out; omega) (Lib.hid RFS.out.2.1)) ?_
  rintro _ _ ⟨v, cur4, rfl, hR4, h4⟩
  obtain ⟨BK, ck, rfl, _⟩ := hR4.shape
  replace H := Lib.hid h4
  have R4 := Lib.hid hR4
  clear h4 hR4
  go_wp2_with (first
      | go_skip
      | ((with_reducible refine isLoad ?_); refine ldA H ?_ (hT := by first | exact rWld | exact rStp) (hm := by (repeat (first | exact List.Mem.head _ | refine List.Mem.tail _ ?_ | refine List.mem_append_right _ ?_ | assumption))))
      | ((with_reducible refine isAlloc ?_); refine alA H ?_ (hz := zWld); clear H; intro b11 _ H)
      | ((with_reducible refine isStore ?_); refine stA H ?_ (hT := by first | exact rWld | exact rStp) (hu := by (repeat (first | apply Upd.head | apply Upd.tail | apply Upd.appA | assumption))); clear H; intro _ H))
  go_at_call 9
  refine (ordered_ok _).mono ?_
  rintro _ _ ⟨rfl, hb⟩
  replace H := Lib.hid (H.out.go hb)
  clear hb
  go_wp2_with (first
      | go_skip
      | ((with_reducible refine isLoad ?_); refine ldA H ?_ (hT := by first | exact rWld | exact rStp) (hm := by (repeat (first | exact List.Mem.head _ | refine List.Mem.tail _ ?_ | refine List.mem_append_right _ ?_ | assumption))))
      | ((with_reducible refine isAlloc ?_); refine alA H ?_ (hz := zWld); clear H; intro b11 _ H)
      | ((with_reducible refine isStore ?_); refine stA H ?_ (hT := by first | exact rWld | exact rStp) (hu := by (repeat (first | apply Upd.head | apply Upd.tail | apply Upd.appA | assumption))); clear H; intro _ H))
  go_at_call 11
  have RB := right_any BB BP cb2 cp bl ps _ (BR.out.rii R2.out (H.out.hld fun z hz => List.mem_append_right _ (List.mem_append_right _ (List.mem_append_right _ (List.mem_append_left _ hz)))) (H.out.hld fun z hz => List.mem_append_right _ (List.mem_append_right _ (List.mem_append_left _ hz)))) VB.out (R3.out.rowinA.ri_ (H.out.hld fun z hz => List.mem_append_right _ (List.mem_append_left _ hz))).1 (by rw [HPL.out, HBL.out]) true RF
  rw [HPL.out, HBL.out] at RB
  refine Calls.mono RB ?_
  rintro _ _ ⟨rfl, hb⟩
  replace H := Lib.hid (H.out.go hb)
  clear hb RB
  go_wp2_with (first
      | go_skip
      | ((with_reducible refine isLoad ?_); refine ldA H ?_ (hT := by first | exact rWld | exact rStp) (hm := by (repeat (first | exact List.Mem.head _ | refine List.Mem.tail _ ?_ | refine List.mem_append_right _ ?_ | assumption))))
      | ((with_reducible refine isAlloc ?_); refine alA H ?_ (hz := zWld); clear H; intro b19 _ H)
      | ((with_reducible refine isStore ?_); refine stA H ?_ (hT := by first | exact rWld | exact rStp) (hu := by (repeat (first | apply Upd.head | apply Upd.tail | apply Upd.appA | assumption))); clear H; intro _ H))
  go_at_call 15
  refine Calls.mono (Run_E H.out (E := E0) (fun z hz => by simp [hz]) WX.out VX.out (by omega) (by omega) BK k ck (pickS ss ps) (fun z hz => List.mem_append_left _ hz) R4.out.rowinA (by unfold pickS; rw [List.length_map]; exact HPL.out) (by omega) y (SAME.out ps RF.out HPL.out)) ?_
  rintro _ _ ⟨k1, k2, k3, c1, c2, c3, E9, rfl, hW9, h4⟩
  replace H := Lib.hid h4
  have W9 := Lib.hid hW9
  clear h4 hW9
  go_wp2_with (first
      | go_skip
      | ((with_reducible refine isLoad ?_); refine ldA H ?_ (hT := by first | exact rWld | exact rStp) (hm := by (repeat (first | exact List.Mem.head _ | refine List.Mem.tail _ ?_ | refine List.mem_append_right _ ?_ | assumption))))
      | ((with_reducible refine isAlloc ?_); refine alA H ?_ (hz := zWld); clear H; intro b19 _ H)
      | ((with_reducible refine isStore ?_); refine stA H ?_ (hT := by first | exact rWld | exact rStp) (hu := by (repeat (first | apply Upd.head | apply Upd.tail | apply Upd.appA | assumption))); clear H; intro _ H))
  go_at_call 16
  refine (Same_any y y _ _ _ _ _ _ np na c1 c2 c3 np na f1 f2 f3 _ (W9.out.rw4 (H.out.hld fun z hz => .tail _ (List.mem_append_left _ hz)) (by omega) (by omega)) (WY.out.rw4 (H.out.hld fun z hz => .tail _ (List.mem_append_right _ (List.mem_append_right _ (List.mem_append_right _ (List.mem_append_right _ (List.mem_append_right _ (.tail _ (List.mem_append_right _ (HEY.out z hz))))))))) (by omega) (by omega)) (by omega) (by omega) (by omega) (by omega) true (Lib.hid (by simp))).mono ?_
  rintro _ _ ⟨rfl, hb⟩
  replace H := Lib.hid (H.out.go hb)
  clear hb
  go_wp2_with (first
      | go_skip
      | ((with_reducible refine isLoad ?_); refine ldA H ?_ (hT := by first | exact rWld | exact rStp) (hm := by (repeat (first | exact List.Mem.head _ | refine List.Mem.tail _ ?_ | refine List.mem_append_right _ ?_ | assumption))))
      | ((with_reducible refine isAlloc ?_); refine alA H ?_ (hz := zWld); clear H; intro b19 _ H)
      | ((with_reducible refine isStore ?_); refine stA H ?_ (hT := by first | exact rWld | exact rStp) (hu := by (repeat (first | apply Upd.head | apply Upd.tail | apply Upd.appA | assumption))); clear H; intro _ H))
  go_ret
  exact ⟨rfl, H.out.bel⟩
end Go.Proofs.Ytbhbbnmllokglaa
