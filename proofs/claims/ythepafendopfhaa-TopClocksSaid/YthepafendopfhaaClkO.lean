/- A slice of faults that came in, opened. No walk. -/
import Derived.Test.YthepafendopfhaaClkP
import Derived.Deep.Slices
import Derived.ChangeSame
namespace Go.Proofs.Ythepafendopfhaa
open Go.ChangeShapes Go.WideShapes Go.Deep Go.RowKit
set_option linter.unusedVariables false
set_option maxRecDepth 100000

theorem flts_of {H : Type} {enc : TypeId × Value → H} {W : World} {sp : Nat → Bool} {hd : Bool} {fuel : Nat} {a : Option Addr} {len cap : Nat} {x : DataW H × List MemPlace} (hf : DataW.trod enc Try.prog W 0 sp hd fuel 22 [.slice a len cap] = some x) :
    ∃ F, FltA W a len F ∧ len ≤ cap := by
  have he := Try.underlying30
  have ce : Try.prog.cellsOf 30 = 3 := by kernel_rfl
  have c1 : Try.prog.cellsOf 3 = 1 := by kernel_rfl
  rcases open_slice Try.underlying22 hf with ⟨h0, _⟩ | ⟨p, len', cap', m, n, D, Pl, h0, hb, hl, hm, hmm, _, hx⟩
  · simp at h0
    obtain ⟨rfl, rfl, rfl⟩ := h0
    exact ⟨[], ⟨rfl, by simp, by simp⟩, Nat.le_refl _⟩
  · simp at h0
    obtain ⟨rfl, rfl, rfl⟩ := h0
    have hlm : len ≤ m := by rw [hmm]; split <;> omega
    have each : ∀ i, i < len → ∃ q : Flt, (∀ j v, q.cells[j]? = some v → W.cell? (p.add (i * 3 + j)) = some v) ∧ ((-9223372036854775808 ≤ q.t ∧ q.t ≤ 9223372036854775807) ∧ (-9223372036854775808 ≤ q.k ∧ q.k ≤ 9223372036854775807) ∧ (-9223372036854775808 ≤ q.n ∧ q.n ≤ 9223372036854775807)) := by
      intro i hi
      obtain ⟨cs', h1, h2⟩ := hx i (by omega)
      rw [ce] at h1
      obtain ⟨_, hlen, hcell⟩ := World.cells?_some h1
      obtain ⟨xs, k, _, _, _, hxl, hfs⟩ := DataW.trod_struct he h2
      match xs, hxl, cs', hlen with
      | [y0, y1, y2], _, [v0, v1, v2], _ =>
        have g0 := hfs 0 _ rfl
        have g1 := hfs 1 _ rfl
        have g2 := hfs 2 _ rfl
        simp [c1] at g0 g1 g2
        obtain ⟨z0, e0, _, w0⟩ := DataW.trod_int Try.underlying3 g0
        obtain ⟨z1, e1, _, w1⟩ := DataW.trod_int Try.underlying3 g1
        obtain ⟨z2, e2, _, w2⟩ := DataW.trod_int Try.underlying3 g2
        simp only [List.cons.injEq, and_true] at e0 e1 e2
        subst e0 e1 e2
        refine ⟨⟨z0, z1, z2⟩, fun j v hv => ?_, wf_bd w0, wf_bd w1, wf_bd w2⟩
        have hj : j < 3 := by
          have := (List.getElem?_eq_some_iff.1 hv).1
          simpa [Flt.cells] using this
        have := hcell j hj
        rw [add_add] at this
        rw [this]
        exact hv
    haveI : Inhabited Flt := ⟨⟨0, 0, 0⟩⟩
    obtain ⟨q, hq⟩ := choose_lt each
    refine ⟨(List.range len).map q, ⟨by simp, fun x hx => ?_, fun hp => ?_⟩, hl⟩
    · obtain ⟨i, hi, rfl⟩ := List.mem_map.1 hx
      exact (hq i (by simpa using hi)).2
    · obtain ⟨b, off, s⟩ := p
      have h1 := (hq 0 hp).1 0 _ rfl
      have hs : s = none := by
        cases s with
        | none => rfl
        | some s => simp only [Addr.add, World.cell?] at h1; split at h1 <;> simp at h1
      subst hs
      refine ⟨b, off, rfl, World.block_lt_of_cell? W _ h1, fun j x hx i v hv => ?_⟩
      rw [List.getElem?_map] at hx
      obtain ⟨i', hi', rfl⟩ := Option.map_eq_some_iff.1 hx
      have hjl := (List.getElem?_eq_some_iff.1 hi').1
      simp only [List.length_range] at hjl
      rw [List.getElem?_range hjl] at hi'
      obtain rfl := Option.some.inj hi'
      have := (hq j hjl).1 i v hv
      rw [Addr.add_mid] at this
      rw [show off + j * 3 + i = off + (j * 3 + i) by omega]
      exact this
end Go.Proofs.Ythepafendopfhaa
