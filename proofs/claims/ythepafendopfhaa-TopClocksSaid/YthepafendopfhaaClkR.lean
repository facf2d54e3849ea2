/- Faults, messages, rows of types: no walk. Printed by gen/clk.py. -/
import Derived.Test.YthepafendopfhaaClkB
import Derived.Test.YthepafendopfhaaRowC
import Derived.Test.YthepafendopfhaaAuto
namespace Go.Proofs.Ythepafendopfhaa
open Go.RowKit
set_option linter.unusedVariables false
set_option maxRecDepth 100000

structure Flt where
  t : Int
  k : Int
  n : Int
def Flt.cells (x : Flt) : List Value := [.int .i64 x.t, .int .i64 x.k, .int .i64 x.n]
theorem Flt.len (x : Flt) : x.cells.length = 3 := rfl
/-- Counts for an arm at a tick. -/
def Flt.hits (arm tick : Int) (x : Flt) : Bool := decide (x.k = 5) && (decide (x.n = arm) && (decide (0 ≤ x.t) && decide (x.t ≤ tick)))
def lostN (F : List Flt) (arm tick : Int) : Nat := F.countP (Flt.hits arm tick)
theorem lost_snoc {F : List Flt} {j : Nat} {x : Flt} (h : F[j]? = some x) (arm tick : Int) : lostN (F.take (j + 1)) arm tick = lostN (F.take j) arm tick + (if x.hits arm tick then 1 else 0) := by
  obtain ⟨hj, rfl⟩ := List.getElem?_eq_some_iff.1 h
  unfold lostN
  rw [List.take_succ_eq_append_getElem hj, List.countP_append]
  simp [List.countP_cons]
theorem kInt : ∃ d, Try.prog.underlying 3 = some d ∧ d.isRow = false := ⟨_, Try.underlying3, rfl⟩
theorem kU32 : ∃ d, Try.prog.underlying 27 = some d ∧ d.isRow = false := ⟨_, Try.underlying27, rfl⟩
theorem rFlt : RowT Try.prog 30 3 := ⟨⟨_, Try.underlying30, rfl⟩, by kernel_rfl⟩
theorem zFlt : (Try.prog.info? 30).bind (·.zero) = some (.agg #[.int .i64 0, .int .i64 0, .int .i64 0]) := by kernel_rfl
section
variable {P : Program} {ops : Array Oper} {rest : List Oper} {o : Oper} {a a2 : Act} {w0 w : World} {l : Ents} {Q : Exit → Act → World → Prop}
/-- A load of a struct out of a row that is not the call's own. -/
theorem ldR (H : Hid (Hp w0 w l)) {α : Type} {enc : α → List Value} {k n : Nat} (j : Nat) {e t : TypeId} {g cap : Nat} {xs : List α} {x : α} {cur cs : List Value} (hk : ∀ x, (enc x).length = k) (hp0 : 0 < k) (X : Hid (Blk w0 g e cur.toArray)) (R : Hid (RowV k (.slice (some ⟨g, 0, none⟩) n cap) n (flat enc xs) cur)) (hx : Hid (xs[j]? = some x)) (hcs : enc x = cs) {p : Operand} {q : Nat}
    (hK : wpList P ops Q rest a2 w) (hT : RowT P t k) (ho : o.op = .load t p := by rfl) (hg : Region.wanted o (yielded ops a.tmps) = true := by first | exact wanted_none rfl | exact wanted_some rfl rfl) (hp : a.eval p = .pointer (some ⟨g, q, none⟩) := by rfl) (hq : q = k * j := by omega)
    (hn : a.put o.dst (.agg cs.toArray) = a2 := by (simp only [Act.put, List.setIfInBounds_toArray, List.set_cons_succ, List.set_cons_zero]; rfl)) : wpList P ops Q (o :: rest) a w := by
  obtain ⟨g', cap', e1, e2, _⟩ := R.out.at_ hk hx.out hp0
  subst hq
  subst hcs
  exact wpList_loadB ho hg hT hp (Lib.hid (X.out.below H.out.bel X.out.lt)) (by simpa using e2) (hk x) (by rw [hn]; exact hK)
end
end Go.Proofs.Ythepafendopfhaa
