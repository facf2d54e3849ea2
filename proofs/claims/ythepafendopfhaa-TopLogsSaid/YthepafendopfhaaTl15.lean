/- A slice of slices of integers that came in, opened. No walk. -/
import Derived.Test.YthepafendopfhaaTl14
import Derived.Deep.Slices
import Derived.ChangeSame
import Derived.ChangeSlices
namespace Go.Proofs.Ythepafendopfhaa
open Go.ChangeShapes Go.WideShapes Go.Deep Go.RowKit
set_option linter.unusedVariables false
set_option maxRecDepth 100000

theorem chooseL {α : Type} [Inhabited α] {n : Nat} {Q : Nat → α → Prop} (h : ∀ i, i < n → ∃ x, Q i x) : ∃ f : Nat → α, ∀ i, i < n → Q i (f i) :=
  ⟨fun i => if hi : i < n then (h i hi).choose else default, fun i hi => by simp only [hi, dif_pos]; exact (h i hi).choose_spec⟩
theorem wf_bdL {a : Int} (h : (Lit.int .i64 a).wf = true) : -9223372036854775808 ≤ a ∧ a ≤ 9223372036854775807 := by
  simpa [Lit.wf, IntKind.min, IntKind.max, IntKind.signed, IntKind.bits] using h
theorem rows_of {H : Type} {enc : TypeId × Value → H} {W : World} {hd : Bool} {fuel : Nat} {a : Option Addr} {len cap : Nat} {x : DataW H × List MemPlace} (hf : DataW.trod enc Try.prog W 0 (fun _ => true) hd fuel 43 [.slice a len cap] = some x) :
    ∃ X, RowsA W a len cap X := by
  have ce : Try.prog.cellsOf 23 = 1 := by kernel_rfl
  rcases open_slice Try.underlying43 hf with ⟨h0, _⟩ | ⟨p, len', cap', m, n, D, Pl, h0, hb, hl, hm, hmm, _, hx⟩
  · simp at h0
    obtain ⟨rfl, rfl, rfl⟩ := h0
    exact ⟨[], rfl, Nat.le_refl _, by unfold maxLen; omega, fun h => absurd h (by omega), fun e he => by cases he⟩
  · simp at h0
    obtain ⟨rfl, rfl, rfl⟩ := h0
    have hlm : len ≤ m := by rw [hmm]; split <;> omega
    have each : ∀ i, i < len → ∃ q : LsE, W.cell? (p.add i) = some (.slice q.A q.n q.c) ∧ IntArg W q.A q.n q.c q.xs := by
      intro i hi
      obtain ⟨cs', h1, h2⟩ := hx i (by omega)
      rw [ce] at h1
      obtain ⟨_, hlen, hcell⟩ := World.cells?_some h1
      match cs', hlen with
      | [v0], _ =>
        have hc := hcell 0 (by omega)
        obtain ⟨zs, w0⟩ : ∃ (zs : LsE), (v0 = .slice zs.A zs.n zs.c) ∧ ((zs.A = none ∧ zs.n = 0 ∧ zs.c = 0 ∧ zs.xs = []) ∨ ∃ x, zs.A = some x ∧ zs.n ≤ zs.c ∧ zs.c ≤ maxLen ∧ zs.xs.length = zs.c ∧ (∀ i, i < zs.xs.length → W.cell? (x.add i) = some (.int .i64 (zs.xs.getD i 0))) ∧ ∀ n ∈ zs.xs, (Lit.int .i64 n).wf = true) := by
          rcases open_ints Try.underlying23 Try.underlying3 (by kernel_rfl) h2 with ⟨hcs, _⟩ | ⟨x, l, c, zs, hcs, _, hl, hm, hz, _, hcell, hwz⟩
          · simp at hcs
            exact ⟨⟨none, 0, 0, []⟩, hcs, .inl ⟨rfl, rfl, rfl, rfl⟩⟩
          · simp at hcs
            exact ⟨⟨some x, l, c, zs⟩, hcs, .inr ⟨_, rfl, hl, hm, by simpa using hz, hcell, hwz⟩⟩
        obtain ⟨hv, hw⟩ := w0
        obtain ⟨A, l, c, ys⟩ := zs
        obtain ⟨xs, ia⟩ := intArg_of hw
        refine ⟨⟨A, l, c, xs⟩, ?_, ia⟩
        subst hv
        simpa [Addr.add] using hc
    haveI : Inhabited LsE := ⟨⟨none, 0, 0, []⟩⟩
    obtain ⟨q, hq⟩ := chooseL each
    refine ⟨(List.range len).map q, by simp, hl, hm, fun hp => ?_, fun e he => ?_⟩
    · obtain ⟨b, off, s⟩ := p
      have h1 := (hq 0 hp).1
      have hs : s = none := by
        cases s with
        | none => rfl
        | some s => simp only [Addr.add, World.cell?] at h1; split at h1 <;> simp at h1
      subst hs
      refine ⟨b, off, rfl, World.block_lt_of_cell? W _ h1, fun j e hj => ?_⟩
      rw [List.getElem?_map] at hj
      obtain ⟨j', hj', rfl⟩ := Option.map_eq_some_iff.1 hj
      have hjl := (List.getElem?_eq_some_iff.1 hj').1
      simp only [List.length_range] at hjl
      rw [List.getElem?_range hjl] at hj'
      obtain rfl := Option.some.inj hj'
      have := (hq j hjl).1
      rw [Addr.add_lit] at this
      exact this
    · obtain ⟨i, hi, rfl⟩ := List.mem_map.1 he
      exact (hq i (by simpa using hi)).2
end Go.Proofs.Ythepafendopfhaa
