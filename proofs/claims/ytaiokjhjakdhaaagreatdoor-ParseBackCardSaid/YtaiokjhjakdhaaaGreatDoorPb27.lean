/- The library's tables and errors, out of the row's condition on five variables that they lie in the world as the program's text lays them. -/
import Derived.Test.YtaiokjhjakdhaaaGreatDoorRows
import Derived.Test.YtaiokjhjakdhaaaGreatDoorPb18
import Derived.Test.YtaiokjhjakdhaaaGreatDoorPb25
import Derived.ProofKit
import Derived.OpenShut
import Derived.LaidMore
import Derived.Lay
namespace Go.Proofs.YtaiokjhjakdhaaaGreatDoor
open Go.ChangeShapes Go.WideShapes Go.ChangeAt Go.RowKit
set_option maxRecDepth 100000

theorem trod_iface {H : Type} {enc : TypeId × Value → H} {P : Program} {w : World} {base : Nat} {sp : Nat → Bool} {fuel : Nat} {t : TypeId} {cs : List Value} {i : TypeDesc} {name : String} {d : DataW H} {p : List MemPlace} (ht : P.underlying t = some i) (hi : i matches .interface _)
    (h : DataW.trod enc P w base sp false fuel t cs = some (.iface name d, p)) : ∃ u v, cs = [.iface u v] := by
  cases fuel with
  | zero => simp [DataW.trod] at h
  | succ m =>
    unfold DataW.trod at h
    rw [ht] at h
    cases i with
    | interface ms =>
      cases cs with
      | nil => cases h
      | cons c r =>
        cases r with
        | nil => 
          cases c with
          | iface u v => exact ⟨u, v, rfl⟩
          | nilIface => cases h
          | _ => cases h
        | cons _ _ => cases c <;> cases h
    | _ => cases hi

theorem tb_of_laid5 {W : World} (h : laidMetH Tryz.prog [("math/bits.deBruijn32tab", Rows.laid_math_bits_deBruijn32tab), ("math/bits.deBruijn64tab", Rows.laid_math_bits_deBruijn64tab), ("internal/strconv.uint64pow10", Rows.laid_internal_strconv_uint64pow10), ("strconv.ErrRange", Rows.laid_strconv_ErrRange), ("strconv.ErrSyntax", Rows.laid_strconv_ErrSyntax)] W) : Tb W ∧ Vr W := by
  rw [MakeChecks.laidMetH_plain _ _ _ (by kernel_rfl)] at h
  obtain ⟨ps, ⟨_, _, _, _, _, _, _, _, _, _, ⟨g, t, cs, fuel, p, q, hg, ht, hv, hd, ⟨g1, t1, cs1, fuel1, p1, q1, hg1, ht1, hv1, hd1, ⟨g2, t2, cs2, fuel2, p2, q2, hg2, ht2, hv2, hd2, ⟨g3, t3, cs3, fuel3, p3, q3, hg3, ht3, hv3, hd3, _, _⟩, _⟩, _⟩, _⟩, _⟩, _, _⟩ := h
  refine ⟨?_, ?_, ?_, ?_⟩
  · clear hg1 ht1 hv1 hd1 hg2 ht2 hv2 hd2 hg3 ht3 hv3 hd3
    obtain rfl := Option.some.inj ((show Tryz.prog.globalNamed "math/bits.deBruijn64tab" = some 5 by kernel_rfl).symm.trans hg)
    obtain rfl := Option.some.inj ((show (Tryz.prog.globals[5]?).map (·.type) = some 209 by kernel_rfl).symm.trans ht)
    obtain ⟨xs, m, _, ex, _, hl, hel⟩ := DataW.trod_array Tryz.underlying209 hd
    have c5 : Tryz.prog.cellsOf 5 = 1 := by kernel_rfl
    intro r hr
    have hlen : Lib.deBruijn64tab.length = 64 := by kernel_rfl
    have hE := hel r (by omega)
    rw [c5, Nat.mul_one, List.getElem?_eq_getElem (by omega)] at hE
    obtain ⟨z, e1, e2, _⟩ := DataW.trod_int Tryz.underlying5 hE
    have e3 : (xs.map (·.1)) = Lib.deBruijn64tab.map fun (n : Nat) => .lit (.int .u8 (n : Int)) := (DataW.agg.inj (Prod.mk.inj ex).1).symm
    have e4 : (xs.map (·.1))[r]? = (Lib.deBruijn64tab.map fun (n : Nat) => (DataW.lit (.int .u8 (n : Int)) : DataW Unit))[r]? := by rw [e3]
    rw [List.getElem?_map, List.getElem?_map, List.getElem?_eq_getElem (by omega : r < xs.length), List.getElem?_eq_getElem (by omega : r < Lib.deBruijn64tab.length), e2] at e4
    have hz : z = (Lib.deBruijn64tab.getD r 0 : Nat) := by
      simp only [Option.map_some, Option.some.injEq, DataW.lit.injEq, Lit.int.injEq, true_and] at e4
      rw [e4, List.getD, List.getElem?_eq_getElem (by omega : r < Lib.deBruijn64tab.length)]; rfl
    rw [World.var?_cell hg hv r, ← hz]
    have : cs.toList[r]? = some (.int .u8 z) := by
      have h0 : ((cs.toList.drop r).take 1)[0]? = some (.int .u8 z) := by rw [e1]; rfl
      simpa using h0
    simpa using this
  · obtain rfl := Option.some.inj ((show (Tryz.prog.globals[1]?).map (·.type) = some 176 by kernel_rfl).symm.trans (Option.some.inj ((show Tryz.prog.globalNamed "internal/strconv.uint64pow10" = some 1 by kernel_rfl).symm.trans hg1) ▸ ht1))
    have := Lib.cells_of_tab (zs := Lib.pow10Tab) (k := .u64) Tryz.underlying176 Tryz.underlying148 (by kernel_rfl) (by kernel_rfl) hd1
    unfold Lib.TabIs
    rw [hv1, ← this]
  · obtain rfl := Option.some.inj ((show (Tryz.prog.globals[2]?).map (·.type) = some 100 by kernel_rfl).symm.trans (Option.some.inj ((show Tryz.prog.globalNamed "strconv.ErrSyntax" = some 2 by kernel_rfl).symm.trans hg3) ▸ ht3))
    obtain ⟨u, v, e⟩ := trod_iface Tryz.underlying100 rfl hd3
    refine ⟨u, v, ?_⟩
    rw [hv3, ← e]
  · obtain rfl := Option.some.inj ((show (Tryz.prog.globals[3]?).map (·.type) = some 100 by kernel_rfl).symm.trans (Option.some.inj ((show Tryz.prog.globalNamed "strconv.ErrRange" = some 3 by kernel_rfl).symm.trans hg2) ▸ ht2))
    obtain ⟨u, v, e⟩ := trod_iface Tryz.underlying100 rfl hd2
    refine ⟨u, v, ?_⟩
    rw [hv2, ← e]
end Go.Proofs.YtaiokjhjakdhaaaGreatDoor
