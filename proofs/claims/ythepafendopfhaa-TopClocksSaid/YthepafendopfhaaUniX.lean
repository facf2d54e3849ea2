/- As UniR, with two further kinds of operation: c v is pure, its value known ahead, and may stand anywhere; x changes the blocks in any way (append) and waits for all others but c. A further block, of any kind, stays. No program. -/
import Derived.Test.YthepafendopfhaaUniR
import Derived.Test.YthepafendopfhaaRowH
namespace Go.Proofs.Ythepafendopfhaa
open Go.RowKit
set_option linter.unusedVariables false

theorem Ov.fin.real {U : Ov} (h : U.fin) (w : World) : ∃ W, U.ok w W := by
  obtain ⟨x, hx⟩ := h
  refine ⟨{ w with heap := Array.ofFn (n := w.heap.size + x) (fun k => match U k.1 with | some b => b | none => (w.heap[k.1]?).getD default) }, ⟨rfl, rfl, rfl, by simp, fun k hk => absurd hk (by omega)⟩, fun k hk hu => ?_, fun k b hu => ?_⟩
  · have hk2 : k < w.heap.size + x := by omega
    simp only [Array.getElem?_ofFn, hk2, dif_pos, hu]
    rw [Array.getElem?_eq_getElem hk]
    rfl
  · have hk2 : k < w.heap.size + x := by have := hx k b hu; omega
    simp only [Array.getElem?_ofFn, hk2, dif_pos, hu]
section
variable {P : Program} {ops : Array Oper} {md : Region.Mode} {w : World} {Z : Nat → Prop}
def YieldsC (P : Program) (ops : Array Oper) (o : Oper) (v : Value) (a : Act) : Prop := Region.wanted o (yielded ops a.tmps) = true ∧ ∀ W, keepsAt P o a W v
/-- It runs in each world that U describes, and leaves one that another U' describes. -/
def RunsX (P : Program) (ops : Array Oper) (w : World) (o : Oper) (a : Act) (U : Ov) (S : Value → Ov → Prop) : Prop :=
  Region.wanted o (yielded ops a.tmps) = true ∧ ∀ W, U.ok w W → ∃ v W' U', (execOp a.eval o).run P W = .ok (.value v) W' ∧ U'.ok w W' ∧ U'.fin ∧ S v U'
inductive KdX | q | p | a | s | r (v : Value) | c (v : Value) | x
def EffX (P : Program) (ops : Array Oper) (Z : Nat → Prop) (w : World) (o : Oper) (a : Act) (U : Ov) (K : Act → Ov → Prop) : KdX → Prop
  | .q => ∃ v, YieldsU P ops w U o v a ∧ K (a.put o.dst v) U
  | .p => ∃ v, YieldsP P ops Z w o v a ∧ K (a.put o.dst v) U
  | .a => ∃ mk b, AllocsAt P ops o a mk b ∧ ∀ g, w.heap.size ≤ g → U g = none → K (a.put o.dst (mk g)) (U.put g b)
  | .s => ∃ z b0 b1 v, (Z z ∨ w.heap.size ≤ z) ∧ U z = some b0 ∧ StoresV P ops Z w o a z b0 b1 v ∧ K (a.put o.dst v) (U.put z b1)
  | .r v => U.still w ∧ YieldsR P ops w o v a ∧ K (a.put o.dst v) U
  | .c v => YieldsC P ops o v a ∧ K (a.put o.dst v) U
  | .x => (∀ k, Z k) ∧ RunsX P ops w o a U (fun v U' => K (a.put o.dst v) U')
/-- These two must not change places: the later one has to wait. -/
def needX : KdX → KdX → Bool
  | .q, .s => true
  | .s, .q => true
  | .s, .s => true
  | .a, .q => true
  | .a, .p => true
  | .a, .s => true
  | .r _, .s => true
  | .s, .r _ => true
  | .c _, _ => false
  | _, .c _ => false
  | .x, _ => true
  | _, .x => true
  | _, _ => false
theorem EffX.mono {o : Oper} {a : Act} {U : Ov} {K K' : Act → Ov → Prop} {k : KdX} (hK : ∀ a U, K a U → K' a U) (h : EffX P ops Z w o a U K k) : EffX P ops Z w o a U K' k := by
  cases k with
  | q => obtain ⟨v, h1, h2⟩ := h; exact ⟨v, h1, hK _ _ h2⟩
  | p => obtain ⟨v, h1, h2⟩ := h; exact ⟨v, h1, hK _ _ h2⟩
  | a => obtain ⟨mk, b, h1, h2⟩ := h; exact ⟨mk, b, h1, fun g h3 h4 => hK _ _ (h2 g h3 h4)⟩
  | s => obtain ⟨z, b0, b1, v, h0, h1, h2, h3⟩ := h; exact ⟨z, b0, b1, v, h0, h1, h2, hK _ _ h3⟩
  | r v => obtain ⟨h0, h1, h2⟩ := h; exact ⟨h0, h1, hK _ _ h2⟩
  | c v => exact ⟨h.1, hK _ _ h.2⟩
  | x => exact ⟨h.1, h.2.1, fun W hW => by obtain ⟨v, W', U', h1, h2, h3, h4⟩ := h.2.2 W hW; exact ⟨v, W', U', h1, h2, h3, hK _ _ h4⟩⟩
section
variable {oi oj : Oper} {a : Act} {U : Ov} {K : Act → Ov → Prop}
/-- What may change places does. -/
theorem EffX.comm {ki kj : KdX} (hn : needX ki kj = false) (si : ∀ cs b, oi.op ≠ .select cs b) (sj : ∀ cs b, oj.op ≠ .select cs b) (hap : oi.apart ops oj = true) (hU : U.fin)
    (h : EffX P ops Z w oi a U (fun a1 U1 => EffX P ops Z w oj a1 U1 K kj) ki) : EffX P ops Z w oj a U (fun a2 U2 => EffX P ops Z w oi a2 U2 K ki) kj := by
  obtain ⟨h1, h2, h3⟩ := Oper.apart_spec hap
  have ej : ∀ u, execOp (a.put oi.dst u).eval oj = execOp a.eval oj := fun u => execOp_put oj sj a oi.dst u h1
  have wj : ∀ u, Region.wanted oj (yielded ops (a.put oi.dst u).tmps) = Region.wanted oj (yielded ops a.tmps) := fun u => wanted_put oj a oi.dst u h1
  have ei : ∀ u, execOp (a.put oj.dst u).eval oi = execOp a.eval oi := fun u => execOp_put oi si a oj.dst u h3
  have wi : ∀ u, Region.wanted oi (yielded ops (a.put oj.dst u).tmps) = Region.wanted oi (yielded ops a.tmps) := fun u => wanted_put oi a oj.dst u h3
  have qj : ∀ {V : Ov} {v u}, YieldsU P ops w V oj v (a.put oi.dst u) → YieldsU P ops w V oj v a := fun hy => by unfold YieldsU keepsAt at *; rw [ej, wj] at hy; exact hy
  have pj : ∀ {v u}, YieldsP P ops Z w oj v (a.put oi.dst u) → YieldsP P ops Z w oj v a := fun hy => by unfold YieldsP keepsAt at *; rw [ej, wj] at hy; exact hy
  have aj : ∀ {mk b u}, AllocsAt P ops oj (a.put oi.dst u) mk b → AllocsAt P ops oj a mk b := fun hy => by unfold AllocsAt at *; rw [ej, wj] at hy; exact hy
  have sj' : ∀ {z b0 b1 v u}, StoresV P ops Z w oj (a.put oi.dst u) z b0 b1 v → StoresV P ops Z w oj a z b0 b1 v := fun hy => by unfold StoresV at *; rw [ej, wj] at hy; exact hy
  have qi : ∀ {V : Ov} {v u}, YieldsU P ops w V oi v a → YieldsU P ops w V oi v (a.put oj.dst u) := fun hy => by unfold YieldsU keepsAt at *; rw [ei, wi]; exact hy
  have pi' : ∀ {v u}, YieldsP P ops Z w oi v a → YieldsP P ops Z w oi v (a.put oj.dst u) := fun hy => by unfold YieldsP keepsAt at *; rw [ei, wi]; exact hy
  have ai : ∀ {mk b u}, AllocsAt P ops oi a mk b → AllocsAt P ops oi (a.put oj.dst u) mk b := fun hy => by unfold AllocsAt at *; rw [ei, wi]; exact hy
  have si' : ∀ {z b0 b1 v u}, StoresV P ops Z w oi a z b0 b1 v → StoresV P ops Z w oi (a.put oj.dst u) z b0 b1 v := fun hy => by unfold StoresV at *; rw [ei, wi]; exact hy
  have pc : ∀ v u, (a.put oj.dst u).put oi.dst v = (a.put oi.dst v).put oj.dst u := fun v u => (Act.put_comm a v u h2).symm
  have less : ∀ {v g b}, w.heap.size ≤ g → U g = none → YieldsU P ops w U oi v a → YieldsU P ops w (U.put g b) oi v a := fun hg hf hy => by
    rcases hy with ⟨y1, y2⟩ | y
    · exact .inl ⟨y1, fun W hW => y2 W (hW.less hg hf)⟩
    · exact .inr y
  have rj : ∀ {v u}, YieldsR P ops w oj v (a.put oi.dst u) → YieldsR P ops w oj v a := fun hy => by unfold YieldsR keepsAt at *; rw [ej, wj] at hy; exact hy
  have ri : ∀ {v u}, YieldsR P ops w oi v a → YieldsR P ops w oi v (a.put oj.dst u) := fun hy => by unfold YieldsR keepsAt at *; rw [ei, wi]; exact hy
  have cj : ∀ {v u}, YieldsC P ops oj v (a.put oi.dst u) → YieldsC P ops oj v a := fun hy => by unfold YieldsC keepsAt at *; rw [ej, wj] at hy; exact hy
  have ci : ∀ {v u}, YieldsC P ops oi v a → YieldsC P ops oi v (a.put oj.dst u) := fun hy => by unfold YieldsC keepsAt at *; rw [ei, wi]; exact hy
  have xj : ∀ {V : Ov} {S u}, RunsX P ops w oj (a.put oi.dst u) V S → RunsX P ops w oj a V S := fun hy => by unfold RunsX at *; rw [ej, wj] at hy; exact hy
  have xi : ∀ {V : Ov} {S u}, RunsX P ops w oi a V S → RunsX P ops w oi (a.put oj.dst u) V S := fun hy => by unfold RunsX at *; rw [ei, wi]; exact hy
  have xm : ∀ {V : Ov} {S S' : Value → Ov → Prop} {o : Oper} {a : Act}, (∀ v U', S v U' → S' v U') → RunsX P ops w o a V S → RunsX P ops w o a V S' := fun hS hy => ⟨hy.1, fun W hW => by obtain ⟨v, W', U', h1, h2, h3, h4⟩ := hy.2 W hW; exact ⟨v, W', U', h1, h2, h3, hS _ _ h4⟩⟩
  cases ki <;> cases kj <;> simp only [needX] at hn
  all_goals first | exact absurd hn (by decide) | skip
  · obtain ⟨v, hv, u, hu, hK⟩ := h
    exact ⟨u, qj hu, v, qi hv, by rw [pc]; exact hK⟩
  · obtain ⟨v, hv, u, hu, hK⟩ := h
    exact ⟨u, pj hu, v, qi hv, by rw [pc]; exact hK⟩
  · obtain ⟨v, hv, mk, b, hA, hK⟩ := h
    exact ⟨mk, b, aj hA, fun g hg hf => ⟨v, qi (less hg hf hv), by rw [pc]; exact hK g hg hf⟩⟩
  · obtain ⟨v, hv, hs, hu, hK⟩ := h
    exact ⟨hs, rj hu, v, qi hv, by rw [pc]; exact hK⟩
  · obtain ⟨v, hv, hu, hK⟩ := h
    exact ⟨cj hu, v, qi hv, by rw [pc]; exact hK⟩
  · obtain ⟨v, hv, u, hu, hK⟩ := h
    exact ⟨u, qj hu, v, pi' hv, by rw [pc]; exact hK⟩
  · obtain ⟨v, hv, u, hu, hK⟩ := h
    exact ⟨u, pj hu, v, pi' hv, by rw [pc]; exact hK⟩
  · obtain ⟨v, hv, mk, b, hA, hK⟩ := h
    exact ⟨mk, b, aj hA, fun g hg hf => ⟨v, pi' hv, by rw [pc]; exact hK g hg hf⟩⟩
  · obtain ⟨v, hv, z, b0, b1, x, hZ, hz, hS, hK⟩ := h
    exact ⟨z, b0, b1, x, hZ, hz, sj' hS, v, pi' hv, by rw [pc]; exact hK⟩
  · obtain ⟨v, hv, hs, hu, hK⟩ := h
    exact ⟨hs, rj hu, v, pi' hv, by rw [pc]; exact hK⟩
  · obtain ⟨v, hv, hu, hK⟩ := h
    exact ⟨cj hu, v, pi' hv, by rw [pc]; exact hK⟩
  · obtain ⟨mk, b, hA, H⟩ := h
    obtain ⟨g0, hg0, hf0⟩ := hU.new w.heap.size
    obtain ⟨mk', b', hA', _⟩ := H g0 hg0 hf0
    refine ⟨mk', b', aj hA', fun g' hg' hf' => ⟨mk, b, ai hA, fun g hg hf => ?_⟩⟩
    have hne : g ≠ g' := fun e => by subst e; rw [Ov.put_same] at hf; cases hf
    rw [Ov.put_ne _ _ hne] at hf
    obtain ⟨mk2, b2, hA2, hK⟩ := H g hg hf
    obtain ⟨rfl, rfl⟩ := AllocsAt.uniq w (aj hA') (aj hA2)
    rw [pc, Ov.put_comm U b' b (Ne.symm hne)]
    exact hK g' hg' (by rw [Ov.put_ne _ _ (Ne.symm hne)]; exact hf')
  · obtain ⟨mk, b, hA, H⟩ := h
    obtain ⟨g0, hg0, hf0⟩ := hU.new w.heap.size
    obtain ⟨hs, hu, _⟩ := H g0 hg0 hf0
    exact ⟨hs.of_put hf0, rj hu, mk, b, ai hA, fun g hg hf => by
      obtain ⟨_, _, hK⟩ := H g hg hf
      rw [pc]
      exact hK⟩
  · obtain ⟨mk, b, hA, H⟩ := h
    obtain ⟨g0, hg0, hf0⟩ := hU.new w.heap.size
    obtain ⟨hu, _⟩ := H g0 hg0 hf0
    exact ⟨cj hu, mk, b, ai hA, fun g hg hf => by
      obtain ⟨_, hK⟩ := H g hg hf
      rw [pc]
      exact hK⟩
  · obtain ⟨z, b0, b1, x, hZ, hz, hS, u, hu, hK⟩ := h
    exact ⟨u, pj hu, z, b0, b1, x, hZ, hz, si' hS, by rw [pc]; exact hK⟩
  · obtain ⟨z, b0, b1, x, hZ, hz, hS, mk, b, hA, hK⟩ := h
    refine ⟨mk, b, aj hA, fun g hg hf => ?_⟩
    have hne : z ≠ g := fun e => by subst e; rw [hf] at hz; cases hz
    refine ⟨z, b0, b1, x, hZ, by rw [Ov.put_ne _ _ hne]; exact hz, si' hS, ?_⟩
    rw [pc, Ov.put_comm U b b1 (Ne.symm hne)]
    exact hK g hg (by rw [Ov.put_ne _ _ (Ne.symm hne)]; exact hf)
  · obtain ⟨z, b0, b1, x, hZ, hz, hS, hu, hK⟩ := h
    exact ⟨cj hu, z, b0, b1, x, hZ, hz, si' hS, by rw [pc]; exact hK⟩
  · obtain ⟨hs, hv, u, hu, hK⟩ := h
    exact ⟨u, qj hu, hs, ri hv, by rw [pc]; exact hK⟩
  · obtain ⟨hs, hv, u, hu, hK⟩ := h
    exact ⟨u, pj hu, hs, ri hv, by rw [pc]; exact hK⟩
  · obtain ⟨hs, hv, mk, b, hA, hK⟩ := h
    exact ⟨mk, b, aj hA, fun g hg hf => ⟨hs.put b hg, ri hv, by rw [pc]; exact hK g hg hf⟩⟩
  · obtain ⟨hs, hv, hs2, hu, hK⟩ := h
    exact ⟨hs2, rj hu, hs, ri hv, by rw [pc]; exact hK⟩
  · obtain ⟨hs, hv, hu, hK⟩ := h
    exact ⟨cj hu, hs, ri hv, by rw [pc]; exact hK⟩
  · obtain ⟨hv, u, hu, hK⟩ := h
    exact ⟨u, qj hu, ci hv, by rw [pc]; exact hK⟩
  · obtain ⟨hv, u, hu, hK⟩ := h
    exact ⟨u, pj hu, ci hv, by rw [pc]; exact hK⟩
  · obtain ⟨hv, mk, b, hA, hK⟩ := h
    exact ⟨mk, b, aj hA, fun g hg hf => ⟨ci hv, by rw [pc]; exact hK g hg hf⟩⟩
  · obtain ⟨hv, z, b0, b1, x, hZ, hz, hS, hK⟩ := h
    exact ⟨z, b0, b1, x, hZ, hz, sj' hS, ci hv, by rw [pc]; exact hK⟩
  · obtain ⟨hv, hs2, hu, hK⟩ := h
    exact ⟨hs2, rj hu, ci hv, by rw [pc]; exact hK⟩
  · obtain ⟨hv, hu, hK⟩ := h
    exact ⟨cj hu, ci hv, by rw [pc]; exact hK⟩
  · obtain ⟨hv, hZ, hK⟩ := h
    exact ⟨hZ, xm (fun v U' hK => ⟨ci hv, by rw [pc]; exact hK⟩) (xj hK)⟩
  · obtain ⟨hZ, hK⟩ := h
    obtain ⟨W, hW⟩ := hU.real w
    obtain ⟨v, W', U', _, _, _, hu, _⟩ := hK.2 W hW
    exact ⟨cj hu, hZ, xm (fun v U' hK => by rw [pc]; exact hK.2) (xi hK)⟩
end
theorem EffX.fin {o : Oper} {a : Act} {U : Ov} {K : Act → Ov → Prop} {k : KdX} (hU : U.fin) (h : EffX P ops Z w o a U K k) : EffX P ops Z w o a U (fun a' U' => U'.fin ∧ K a' U') k := by
  cases k with
  | q => obtain ⟨v, h1, h2⟩ := h; exact ⟨v, h1, hU, h2⟩
  | p => obtain ⟨v, h1, h2⟩ := h; exact ⟨v, h1, hU, h2⟩
  | a => obtain ⟨mk, b, h1, h2⟩ := h; exact ⟨mk, b, h1, fun g h3 h4 => ⟨hU.put _ _, h2 g h3 h4⟩⟩
  | s => obtain ⟨z, b0, b1, v, h0, h1, h2, h3⟩ := h; exact ⟨z, b0, b1, v, h0, h1, h2, hU.put _ _, h3⟩
  | r v => obtain ⟨h0, h1, h2⟩ := h; exact ⟨h0, h1, hU, h2⟩
  | c v => exact ⟨h.1, hU, h.2⟩
  | x => exact ⟨h.1, h.2.1, fun W hW => by obtain ⟨v, W', U', h1, h2, h3, h4⟩ := h.2.2 W hW; exact ⟨v, W', U', h1, h2, h3, h3, h4⟩⟩
def edgesX (md : Region.Mode) (ops : Array Oper) (kd : Nat → KdX) (N : Nat) : Bool := (List.range N).all fun j => (List.range j).all fun i => !needX (kd i) (kd j) || reachB md ops i N j
theorem edgesX_spec {kd : Nat → KdX} {N : Nat} (h : edgesX md ops kd N = true) {j i : Nat} (hj : j < N) (hi : i < j) (hn : needX (kd i) (kd j) = true) : reachB md ops i N j = true := by
  unfold edgesX at h
  have h1 := List.all_eq_true.1 (List.all_eq_true.1 h j (List.mem_range.2 hj)) i (List.mem_range.2 hi)
  rw [hn] at h1
  simpa using h1

/-! Every order -/
def HeadX (P : Program) (md : Region.Mode) (ops : Array Oper) (Z : Nat → Prop) (w : World) (kd : Nat → KdX) (N : Nat) (L : Array Bool → Act → Ov → Prop) : Nat → Array Bool → Act → Ov → Prop
  | 0, done, a, U => L done a U
  | f + 1, done, a, U => Region.ready md ops done ≠ [] ∧ ∀ i ∈ Region.ready md ops done, i < N ∧ ∃ o, ops[i]? = some o ∧ EffX P ops Z w o a U (HeadX P md ops Z w kd N L f (done.setIfInBounds i true)) (kd i)
variable {kd : Nat → KdX} {N : Nat}
theorem HeadX.any {L : Array Bool → Act → Ov → Prop} {g : Nat} {Q : Exit → Act → World → Prop} (hL : ∀ done a U W, Ov.ok U w W → L done a U → wpAny P md ops Q g done a W) (f : Nat) :
    ∀ (done : Array Bool) (a : Act) (U : Ov) (W : World), Ov.ok U w W → U.inv Z w → HeadX P md ops Z w kd N L f done a U → wpAny P md ops Q (f + g) done a W := by
  induction f with
  | zero => intro done a U W hw _ h; rw [Nat.zero_add]; exact hL _ _ _ _ hw h
  | succ f ih =>
    intro done a U W hw hI h
    rw [show f + 1 + g = (f + g) + 1 by omega]
    refine ⟨fun h0 => absurd h0 h.1, fun i hi => ?_⟩
    obtain ⟨_, o, ho, hE⟩ := h.2 i hi
    cases hkd : kd i with
    | q =>
      rw [hkd] at hE
      obtain ⟨v, hy, hK⟩ := hE
      refine wpOp_of_qOp (C := fun w' => Below W.heap.size W w') (K := fun a' => a' = a.put o.dst v) (Below.refl _ _) (fun a' w' hw' e => by subst e; exact ih _ _ _ _ (hw.go hw') hI hK) ?_
      unfold qOp
      simp only [ho]
      rcases hy with ⟨h1, h2⟩ | ⟨h1, rfl⟩
      · rw [if_pos h1]
        exact ⟨v, fun w' hw' => quietUpon_mono (fun w'' h' => hw'.trans (h'.mono hw'.size)) (h2 w' (hw.go hw')), rfl⟩
      · rw [if_neg (by rw [h1]; exact Bool.false_ne_true)]
    | p =>
      rw [hkd] at hE
      obtain ⟨v, hy, hK⟩ := hE
      refine wpOp_of_qOp (C := fun w' => Below W.heap.size W w') (K := fun a' => a' = a.put o.dst v) (Below.refl _ _) (fun a' w' hw' e => by subst e; exact ih _ _ _ _ (hw.go hw') hI hK) ?_
      unfold qOp
      simp only [ho]
      rcases hy with ⟨h1, h2⟩ | ⟨h1, rfl⟩
      · rw [if_pos h1]
        exact ⟨v, fun w' hw' => quietUpon_mono (fun w'' h' => hw'.trans (h'.mono hw'.size)) (h2 w' ((hw.st hI).go hw')), rfl⟩
      · rw [if_neg (by rw [h1]; exact Bool.false_ne_true)]
    | a =>
      rw [hkd] at hE
      obtain ⟨mk, b, ⟨h1, h2⟩, hK⟩ := hE
      unfold wpOp
      simp only [ho]
      rw [if_pos h1]
      refine .inl ?_
      unfold Oper.wp
      rw [h2, Oper.upon_value]
      exact ih _ _ _ _ (hw.alloc b) (hI.put b (.inr hw.all.size)) (hK _ hw.all.size hw.new)
    | s =>
      rw [hkd] at hE
      obtain ⟨z, b0, b1, v, hZ, hz0, ⟨h1, h2⟩, hK⟩ := hE
      have h3 := h2 W (hw.st hI) (hw.has z b0 hz0)
      unfold wpOp
      simp only [ho]
      rw [if_pos h1]
      refine .inl ?_
      unfold Oper.wp
      generalize (execOp a.eval o).run P W = r at h3
      cases r with
      | ok n W' =>
        cases n <;> simp only [upZ] at h3 <;> simp only [Oper.upon]
        case value u =>
          obtain ⟨e1, hz', hk, hB⟩ := h3
          rw [e1]
          exact ih _ _ _ _ (hw.store hz' hk hB) (hI.put b1 hZ) hK
        case skip =>
          obtain ⟨e1, hz', hk, hB⟩ := h3
          rw [← e1]
          exact ih _ _ _ _ (hw.store hz' hk hB) (hI.put b1 hZ) hK
        case enter f' args =>
          obtain ⟨e1, hc⟩ := h3
          rw [e1]
          exact hc.mono fun e w'' ⟨he, hz', hk, hB⟩ => by subst he; exact ih _ _ _ _ (hw.store hz' hk hB) (hI.put b1 hZ) hK
      | halt x W' => simp only [upZ] at h3
    | r v =>
      rw [hkd] at hE
      obtain ⟨hs, hy, hK⟩ := hE
      refine wpOp_of_qOp (C := fun w' => Below W.heap.size W w') (K := fun a' => a' = a.put o.dst v) (Below.refl _ _) (fun a' w' hw' e => by subst e; exact ih _ _ _ _ (hw.go hw') hI hK) ?_
      unfold qOp
      simp only [ho]
      rcases hy with ⟨h1, h2⟩ | ⟨h1, rfl⟩
      · rw [if_pos h1]
        exact ⟨v, fun w' hw' => quietUpon_mono (fun w'' h' => hw'.trans (h'.mono hw'.size)) (h2 w' ((hw.go hw').below hs)), rfl⟩
      · rw [if_neg (by rw [h1]; exact Bool.false_ne_true)]
    | c v =>
      rw [hkd] at hE
      obtain ⟨⟨h1, h2⟩, hK⟩ := hE
      refine wpOp_of_qOp (C := fun w' => Below W.heap.size W w') (K := fun a' => a' = a.put o.dst v) (Below.refl _ _) (fun a' w' hw' e => by subst e; exact ih _ _ _ _ (hw.go hw') hI hK) ?_
      unfold qOp
      simp only [ho]
      rw [if_pos h1]
      exact ⟨v, fun w' hw' => quietUpon_mono (fun w'' h' => hw'.trans (h'.mono hw'.size)) (h2 w'), rfl⟩
    | x =>
      rw [hkd] at hE
      obtain ⟨hZ, h1, h2⟩ := hE
      obtain ⟨v, W', U', hr, hok, hf, hK⟩ := h2 W hw
      unfold wpOp
      simp only [ho]
      rw [if_pos h1]
      refine .inl ?_
      unfold Oper.wp
      rw [hr, Oper.upon_value]
      exact ih _ _ _ _ hok (fun k _ _ hn _ => absurd (hZ k) hn) hK

theorem HeadX.first {L : Array Bool → Act → Ov → Prop} {i : Nat} {oi : Oper} (hi : ops[i]? = some oi) (hiN : i < N) (hsel : ∀ (j : Nat) (o : Oper) cs b, ops[j]? = some o → o.op ≠ .select cs b)
    (hE : edgesX md ops kd N = true) (hs : Region.sinkB md ops N = true) (hc : Region.chainB md ops N = true) (hn : N < ops.size) (hL : ∀ done a U, L done a U → ∀ j ∈ Region.ready md ops done, N ≤ j) (f : Nat) :
    ∀ (done : Array Bool) (a : Act) (U : Ov), HeadInv md ops N done → U.fin → (∀ j, j < i → done.getD j true = true) →
      (∀ j oj, ops[j]? = some oj → j ≠ i → done.getD j true = false → (∀ e ∈ oj.after, Region.binds md e = true → e.on ≠ i) → oi.apart ops oj = true) →
      i ∈ Region.ready md ops done → EffX P ops Z w oi a U (HeadX P md ops Z w kd N L f (done.setIfInBounds i true)) (kd i) → HeadX P md ops Z w kd N L (f + 1) done a U := by
  have low : ∀ done, HeadInv md ops N done → i ∈ Region.ready md ops done → ∀ j ∈ Region.ready md ops done, j < N := fun done inv hr j hj => by
    rcases Nat.lt_or_ge j N with h | h
    · exact h
    · exact absurd hj (tail_waits hs hc hn inv _ i rfl hiN (mem_ready.1 hr).1 j h)
  have some_one : ∀ {o : Oper} {a : Act} {U : Ov} {K : Act → Ov → Prop} {k : KdX}, U.fin → EffX P ops Z w o a U K k → ∃ a' U', K a' U' := by
    intro o a U K k hU h
    cases k with
    | q => obtain ⟨v, _, h2⟩ := h; exact ⟨_, _, h2⟩
    | p => obtain ⟨v, _, h2⟩ := h; exact ⟨_, _, h2⟩
    | a => obtain ⟨mk, b, _, h2⟩ := h; obtain ⟨g, h3, h4⟩ := hU.new w.heap.size; exact ⟨_, _, h2 g h3 h4⟩
    | s => obtain ⟨z, b0, b1, v, _, _, _, h2⟩ := h; exact ⟨_, _, h2⟩
    | r v => obtain ⟨_, _, h2⟩ := h; exact ⟨_, _, h2⟩
    | c v => exact ⟨_, _, h.2⟩
    | x => obtain ⟨W, hW⟩ := hU.real w; obtain ⟨v, W', U', _, _, _, h4⟩ := h.2.2 W hW; exact ⟨_, _, h4⟩
  induction f with
  | zero =>
    intro done a U inv hU _ _ hr H
    refine ⟨fun h => (by rw [h] at hr; cases hr), fun j hj => ⟨low done inv hr j hj, ?_⟩⟩
    rcases Nat.decEq j i with hji | hji
    · obtain ⟨a', U', hl⟩ := some_one hU H
      have := hL _ _ _ hl j (ready_mono hj hji)
      have := low done inv hr j hj
      omega
    · subst hji; exact ⟨oi, hi, H⟩
  | succ f ih =>
    intro done a U inv hU hd hfree hr H
    refine ⟨fun h => (by rw [h] at hr; cases hr), fun j hj => ⟨low done inv hr j hj, ?_⟩⟩
    rcases Nat.decEq j i with hji | hji
    · obtain ⟨hjun, oj, hoj, hall⟩ := mem_ready.1 hj
      have hun := (mem_ready.1 hr).1
      have hnot : ∀ e ∈ oj.after, Region.binds md e = true → e.on ≠ i := fun e he hb heq => by
        have h1 := hall e he hb
        rw [heq, getD_both hun] at h1
        cases h1
      have hap := hfree j oj hoj hji hjun hnot
      have back : ∀ k, (done.setIfInBounds j true).getD k true = false → done.getD k true = false := fun k hk => by
        rcases Nat.decEq j k with hjk | hjk
        · rw [getD_set_ne true hjk] at hk; exact hk
        · subst hjk; exact hjun
      have hij : i < j := by
        rcases Nat.lt_or_ge i j with h | h
        · exact h
        · have := hd j (by omega)
          rw [hjun] at this
          cases this
      have hjN := low done inv hr j hj
      have hne : needX (kd i) (kd j) = false := by
        cases hq : needX (kd i) (kd j) with
        | false => rfl
        | true => exact absurd hj (reach_waits inv (edgesX_spec hE hjN hij hq) hun)
      refine ⟨oj, hoj, ?_⟩
      have H2 : EffX P ops Z w oi a U (fun a1 U1 => EffX P ops Z w oj a1 U1 (HeadX P md ops Z w kd N L f ((done.setIfInBounds j true).setIfInBounds i true)) (kd j)) (kd i) := H.mono fun a1 U1 h => by
        obtain ⟨_, oj', hoj', hh⟩ := h.2 j (ready_mono hj hji)
        obtain rfl : oj = oj' := Option.some.inj (hoj.symm.trans hoj')
        rw [Array.setIfInBounds_comm _ _ hji]
        exact hh
      have H3 := EffX.fin hU (EffX.comm hne (fun cs b => hsel i oi cs b hi) (fun cs b => hsel j oj cs b hoj) hap hU H2)
      refine H3.mono fun a2 U2 ⟨hf2, h2⟩ => ih _ a2 U2 (inv.set hj hjN) hf2 (fun k hk => by rw [getD_set_ne true (by omega)]; exact hd k hk) (fun k ok hk hki hun' hno => hfree k ok hk hki (back k hun') hno) (ready_mono hr (Ne.symm hji)) h2
    · subst hji; exact ⟨oi, hi, H⟩

/-- The walk in the text's order. -/
def wpUX (P : Program) (ops : Array Oper) (Z : Nat → Prop) (w : World) (kd : Nat → KdX) (R : Act → Ov → Prop) : Nat → List Oper → Act → Ov → Prop
  | _, [], a, U => R a U
  | k, o :: os, a, U => EffX P ops Z w o a U (wpUX P ops Z w kd R (k + 1) os) (kd k)
theorem HeadX.lex {g : Nat} {R : Act → Ov → Prop} (hsel : Region.noSelect ops = true) (hE : edgesX md ops kd N = true) (hs : Region.sinkB md ops N = true) (hc : Region.chainB md ops N = true) (hn : N < ops.size) (l : List Oper) :
    ∀ (k : Nat) (done : Array Bool) (a : Act) (U : Ov), (∀ j, j < l.length → l[j]? = ops[k + j]?) → k + l.length = N → HeadInv md ops N done → (∀ j, j < k → done.getD j true = true) → U.fin →
      Region.lexHead md ops g l.length k done = true → wpUX P ops Z w kd R k l a U →
      HeadX P md ops Z w kd N (fun done' a' U' => Region.seqB md ops g N done' = true ∧ R a' U') l.length done a U := by
  induction l with
  | nil =>
    intro k done a U _ hk _ _ _ hB h
    obtain rfl : k = N := by simpa using hk
    exact ⟨by simpa [Region.lexHead] using hB, h⟩
  | cons o l ih =>
    intro k done a U hl hk inv hd hU hB h
    have h0 : ops[k]? = some o := by simpa using (hl 0 (by simp)).symm
    simp only [List.length_cons] at hk hB ⊢
    rw [Region.lexHead, Bool.and_eq_true, Bool.and_eq_true] at hB
    obtain ⟨⟨hr, hf⟩, hB'⟩ := hB
    have hr' : k ∈ Region.ready md ops done := by simpa using hr
    have hd' : ∀ j, j < k + 1 → (done.setIfInBounds k true).getD j true = true := fun j hj => by
      rcases Nat.decEq k j with hkj | hkj
      · rw [getD_set_ne true hkj]; exact hd j (by omega)
      · subst hkj
        have hks : k < done.size := by rw [inv.size]; omega
        simp [hks]
    refine HeadX.first h0 (by omega) (Region.noSelect_spec hsel) hE hs hc hn (fun done' a' U' hL => seqB_ready hL.1) l.length done a U inv hU hd (Region.free_spec h0 hf) hr' ?_
    exact (EffX.fin hU h).mono fun a' U' ⟨hf', h'⟩ => ih (k + 1) _ a' U' (fun j hj => by have := hl (j + 1) (by simp; omega); simpa [Nat.add_assoc, Nat.add_comm 1 j] using this) (by omega) (inv.set hr' (by omega)) hd' hf' hB' h'

/-- **A drawn region**, walked in the text's order. -/
theorem wp_region_uniX {id : Nat} {Q : Exit → Act → World → Prop} {a : Act} {l : List Oper} (N : Nat) (kd : Nat → KdX) (U : Ov) (hU : U.fin) (hok : U.ok w w) (hI : U.inv Z w) (hm : P.follows .mixedOrders = true) (hB : Region.lexTailB .any l.toArray N = true) (hE : edgesX .any l.toArray kd N = true)
    (h : wpUX P l.toArray Z w kd (fun a' U' => ∀ W, U'.ok w W → wpList P l.toArray Q (l.drop N) a' W) 0 (l.take N) a U) : (Code.region id l.toArray true).wp P Q a w := by
  simp only [Region.lexTailB, Bool.and_eq_true, decide_eq_true_eq] at hB
  obtain ⟨⟨⟨⟨hsel, hn⟩, hs⟩, hc⟩, hlex⟩ := hB
  have hn' : N < l.length := by simpa using hn
  have htl : (l.take N).length = N := by simp; omega
  have hdl : (l.drop N).length = l.toArray.size - N := by simp
  have start : HeadInv .any l.toArray N (Array.replicate l.toArray.size false) := by
    constructor
    · simp
    · intro j oj _ hl; rw [getD_replicate_false] at hl; cases hl
    · intro t _ ht; exact getD_in (by simpa using ht) (getD_replicate_false _ _)
  have H := HeadX.lex (P := P) (w := w) (md := .any) (kd := kd) (N := N) (g := l.toArray.size - N) (R := fun a' U' => ∀ W, U'.ok w W → wpList P l.toArray Q (l.drop N) a' W) hsel hE hs hc hn (l.take N) 0 _ a U
    (fun j hj => by rw [htl] at hj; simp [hj]) (by rw [htl]; omega) start (fun j hj => by omega) hU (by rw [htl]; exact hlex) h
  rw [htl] at H
  refine wp_region_any hm ?_
  have := HeadX.any (Q := Q) (g := l.toArray.size - N) (fun done a' U' W hW hL => by
    have := wpAny_of_seq (md := .any) (Q' := Q) (l.drop N) N done a' W (fun j => by simp [List.getElem?_drop]) (by rw [hdl]; exact hL.1) (hL.2 W hW)
    rwa [hdl] at this) _ _ _ _ _ (show Ov.ok U w { w with drawn := w.drawn + 1 } from ⟨(Below.refl 0 w).drew, hok.keep, hok.has⟩) hI H
  rwa [show N + (l.toArray.size - N) = l.toArray.size by omega] at this
end

/-- A further block M, of any kind, that stays as it is. -/
structure Hm (w0 w : World) (M : Nat) (ob : Obj) (l : Ents) : Prop where
  hp : Hp w0 w l
  mp : w.heap[M]? = some ob
  out : ∀ x ∈ l, x.1 ≠ M
section
variable {P : Program} {ops : Array Oper} {rest : List Oper} {o : Oper} {a : Act} {w0 w : World} {l l' : Ents} {Q : Exit → Act → World → Prop} {kd : Nat → KdX} {k : Nat} {R : Act → Ents → Prop} {M : Nat} {ob : Obj}
theorem Hm.lt (h : Hm w0 w M ob l) : M < w.heap.size := (Array.getElem?_eq_some_iff.1 h.mp).1
/-- The walk over the list of blocks. -/
def wpX (P : Program) (ops : Array Oper) (w0 w : World) (kd : Nat → KdX) (R : Act → Ents → Prop) : Nat → List Oper → Act → Ents → Prop
  | _, [], a, l => R a l
  | k, o :: os, a, l =>
    (kd k = .q ∧ ∃ v, (Region.wanted o (yielded ops a.tmps) = true ∧ ∀ W, Hid (Hp w0 W l) → keepsAt P o a W v) ∧ wpX P ops w0 w kd R (k + 1) os (a.put o.dst v) l) ∨
    (∃ v, kd k = .c v ∧ YieldsC P ops o v a ∧ wpX P ops w0 w kd R (k + 1) os (a.put o.dst v) l) ∨
    (kd k = .a ∧ ∃ mk t cs, AllocsAt P ops o a mk (.cells cs.toArray t (0, 0)) ∧ ∀ g, wpX P ops w0 w kd R (k + 1) os (a.put o.dst (mk g)) ((g, t, cs) :: l)) ∨
    (kd k = .x ∧ Region.wanted o (yielded ops a.tmps) = true ∧ ∀ W, Hid (Hp w0 W l) → ∃ v W' l' z, (execOp a.eval o).run P W = .ok (.value v) W' ∧ Hp w0 W' l' ∧ Chg W W' l l' z ∧ wpX P ops w0 w kd R (k + 1) os (a.put o.dst v) l')
/-- The list is a view of what is known. -/
structure VwX (w0 w : World) (M : Nat) (U : Ov) (l : Ents) : Prop where
  nd : (l.map (·.1)).Nodup
  at_ : ∀ x ∈ l, U x.1 = some (.cells x.2.2.toArray x.2.1 (0, 0))
  lo : ∀ k b, U k = some b → w0.heap.size ≤ k ∧ k ≠ M
theorem VwX.hp {U : Ov} {W : World} (h : Hp w0 w l) (v : VwX w0 w M U l') (hok : U.ok w W) : Hp w0 W l' :=
  ⟨fun x hx => ⟨(v.lo _ _ (v.at_ x hx)).1, hok.has _ _ (v.at_ x hx)⟩, v.nd, h.bel.trans ⟨hok.all.os, hok.all.tape, hok.all.output, hok.all.size, fun k hk => hok.keep k (Nat.lt_of_lt_of_le hk h.bel.size) (by
    cases hu : U k with
    | none => rfl
    | some b =>
      have := (v.lo k b hu).1
      omega)⟩, h.t0⟩
theorem wpX_nil (h : R a l) : wpX P ops w0 w kd R k [] a l := h
theorem wpX_C {v : Value} (hp : kd k = .q) (hg : Region.wanted o (yielded ops a.tmps) = true) (hr : ∀ W, Hid (Hp w0 W l) → keepsAt P o a W v) (h : wpX P ops w0 w kd R (k + 1) rest (a.put o.dst v) l) : wpX P ops w0 w kd R k (o :: rest) a l :=
  .inl ⟨hp, v, ⟨hg, hr⟩, h⟩
theorem wpX_q {v : Value} (hp : kd k = .q) (hg : Region.wanted o (yielded ops a.tmps) = true) (hr : ∀ W, (execOp a.eval o).run P W = .ok (.value v) W) (h : wpX P ops w0 w kd R (k + 1) rest (a.put o.dst v) l) : wpX P ops w0 w kd R k (o :: rest) a l :=
  wpX_C hp hg (fun W _ => by unfold keepsAt; rw [hr W]; exact ⟨rfl, rfl⟩) h
theorem wpX_c {v : Value} (hp : kd k = .c v) (hg : Region.wanted o (yielded ops a.tmps) = true) (hr : ∀ W, (execOp a.eval o).run P W = .ok (.value v) W) (h : wpX P ops w0 w kd R (k + 1) rest (a.put o.dst v) l) : wpX P ops w0 w kd R k (o :: rest) a l :=
  .inr (.inl ⟨v, hp, ⟨hg, fun W => by unfold keepsAt; rw [hr W]; exact ⟨rfl, rfl⟩⟩, h⟩)
theorem wpX_load {t T : TypeId} {p : Operand} {b j n : Nat} {cs ds : List Value} (hk : kd k = .q) (ho : o.op = .load t p) (hg : Region.wanted o (yielded ops a.tmps) = true) (hT : RowT P t n) (hp : a.eval p = .pointer (some ⟨b, j, none⟩))
    (hm : (b, T, cs) ∈ l) (hx : (cs.drop j).take n = ds) (hl : ds.length = n) (h : wpX P ops w0 w kd R (k + 1) rest (a.put o.dst (.agg ds.toArray)) l) : wpX P ops w0 w kd R k (o :: rest) a l :=
  wpX_C hk hg (fun W hW => by
    have hr := run_loadB (P := P) (t := t) (k := j) (hW.out.get hm) hT (by simpa using hx) hl
    unfold keepsAt execOp
    simp only [ho, hp, hr, Sem.run_bind, Sem.run_pure, Result.andThen_ok]
    exact ⟨rfl, rfl⟩) h
theorem wpX_load1 {t T : TypeId} {p : Operand} {b j : Nat} {cs : List Value} {v : Value} (hk : kd k = .q) (ho : o.op = .load t p) (hg : Region.wanted o (yielded ops a.tmps) = true) (hT : ∃ d, P.underlying t = some d ∧ d.isRow = false) (hp : a.eval p = .pointer (some ⟨b, j, none⟩))
    (hm : (b, T, cs) ∈ l) (hx : cs[j]? = some v) (h : wpX P ops w0 w kd R (k + 1) rest (a.put o.dst v) l) : wpX P ops w0 w kd R k (o :: rest) a l :=
  wpX_C hk hg (fun W hW => by
    have hr := run_loadC (P := P) (t := t) (k := j) hT (hW.out.get hm).out (by simpa using hx)
    unfold keepsAt execOp
    simp only [ho, hp, hr, Sem.run_bind, Sem.run_pure, Result.andThen_ok]
    exact ⟨rfl, rfl⟩) h
theorem wpX_V (t : TypeId) (cs : List Value) (n : Nat) (hp : kd k = .a) (hg : o.guard = none) (hr : ∀ W : World, (execOp a.eval o).run P W = .ok (.value (.slice (some ⟨W.heap.size, 0, none⟩) n n)) (W.alloc (.cells cs.toArray t)))
    (h : ∀ g, wpX P ops w0 w kd R (k + 1) rest (a.put o.dst (.slice (some ⟨g, 0, none⟩) n n)) ((g, t, cs) :: l)) : wpX P ops w0 w kd R k (o :: rest) a l :=
  .inr (.inr (.inl ⟨hp, fun g => .slice (some ⟨g, 0, none⟩) n n, t, cs, ⟨by simp [Region.wanted, hg], hr⟩, h⟩))
/-- append -/
theorem wpX_app {size bytes b m c n : Nat} {t e e2 : TypeId} {v : Value} {xs cur news : List Value} (X T : Ents) (hp : kd k = .x) (R0 : Hid (RowV size v n xs cur)) (hl : l = X ++ (rowE v e cur ++ T)) (I : InfoT P e size bytes) (hsz : 0 < size) (ht : P.underlying t = some (.slice e)) (hgd : o.guard = none) {s x : Operand}
    (ho : o.op = .call { callee := .builtin .append, args := #[s, x], argTypes := #[t, t] }) (hs : a.eval s = v) (hx : a.eval x = .slice (some ⟨b, 0, none⟩) m c) (hm : (b, e2, news) ∈ l) (hn : news.length = m * size) (h1 : news.all (·.oneCell') = true) (h0 : 0 < m) (h63 : n + m ≤ maxLen) (hb : (n + m) * bytes ≤ 140737488355328)
    (hK : ∀ v' cur', Hid (RowV size v' (n + m) (xs ++ news) cur') → wpX P ops w0 w kd R (k + 1) rest (a.put o.dst v') (X ++ (rowE v' e cur' ++ T))) : wpX P ops w0 w kd R k (o :: rest) a l := by
  subst hl
  obtain ⟨i, z, hi, hz, rfl, rfl, hzs⟩ := I.h
  refine .inr (.inr (.inr ⟨hp, by simp [Region.wanted, hgd], fun W H => ?_⟩))
  have hk := (H.out.get hm).out
  obtain ⟨v', cur', w', hr, h2, h3, g, h4⟩ := run_append_H (P := P) t o.type i z ht hi hz hzs hsz H.out R0.out b m c news hn (fun j u hu => by rw [hk.cell]; simpa using hu) (fun u hu => List.all_eq_true.1 h1 u hu) h0 h63 hb
  refine ⟨v', w', _, g, ?_, h3, h4, hK v' cur' (Lib.hid h2)⟩
  unfold execOp
  simp only [ho, resolve, invoke, builtin, Sem.run_bind, Sem.run_pure, Result.andThen_ok, List.map_toArray, List.map_cons, List.map_nil, hs, hx, hr]
theorem wpUX_of (h0 : Hp w0 w l) (hM : M < w.heap.size) {R' : Act → Ov → Prop} (os : List Oper) : ∀ (k : Nat) (a : Act) (l1 : Ents) (U : Ov), VwX w0 w M U l1 → U.fin →
    (∀ a' l2 U2, VwX w0 w M U2 l2 → R a' l2 → R' a' U2) → wpX P ops w0 w kd R k os a l1 → wpUX P ops (fun _ => True) w kd R' k os a U := by
  induction os with
  | nil => intro k a l1 U hv _ hR h; exact hR a l1 U hv h
  | cons o os ih =>
    intro k a l1 U hv hf hR h
    show EffX P ops (fun _ => True) w o a U (wpUX P ops (fun _ => True) w kd R' (k + 1) os) (kd k)
    rcases h with ⟨hp, v, hy, hK⟩ | ⟨v, hp, hy, hK⟩ | ⟨hp, mk, t, cs, hA, hK⟩ | ⟨hp, hg, hX⟩
    · rw [hp]
      exact ⟨v, .inl ⟨hy.1, fun W hW => hy.2 W (Lib.hid (hv.hp h0 hW))⟩, ih _ _ _ _ hv hf hR hK⟩
    · rw [hp]
      exact ⟨hy, ih _ _ _ _ hv hf hR hK⟩
    · rw [hp]
      refine ⟨mk, _, hA, fun g hg hu => ih _ _ ((g, t, cs) :: l1) _ ⟨?_, fun x hx => ?_, fun k b hb => ?_⟩ (hf.put _ _) hR (hK g)⟩
      · rw [List.map_cons, List.nodup_cons]
        refine ⟨fun hm => ?_, hv.nd⟩
        obtain ⟨x, hx, he⟩ := List.mem_map.1 hm
        have := hv.at_ x hx
        rw [he, hu] at this
        cases this
      · rcases List.mem_cons.1 hx with rfl | hx
        · exact Ov.put_same _ _ _
        · have := hv.at_ x hx
          rw [Ov.put_ne _ _ (fun e => by rw [e, hu] at this; cases this)]
          exact this
      · by_cases e : k = g
        · subst e
          exact ⟨Nat.le_trans h0.bel.size hg, by omega⟩
        · rw [Ov.put_ne _ _ e] at hb
          exact hv.lo k b hb
    · rw [hp]
      refine ⟨fun _ => trivial, hg, fun W hW => ?_⟩
      obtain ⟨v, W', l2, z, hr, h2, h3, hK⟩ := hX W (Lib.hid (hv.hp h0 hW))
      obtain ⟨bz, hz⟩ : ∃ bz, W'.heap[z]? = some bz := ⟨_, Array.getElem?_eq_getElem h3.lt⟩
      have hz0 : w0.heap.size ≤ z ∧ z ≠ M := by
        rcases h3.old with e | ⟨x, hx, rfl⟩
        · have := hW.all.size
          have := h0.bel.size
          omega
        · exact hv.lo _ _ (hv.at_ x hx)
      refine ⟨v, W', U.put z bz, hr, ⟨hW.all.trans h3.all, fun k hk hu => ?_, fun k b hu => ?_⟩, hf.put _ _, ih _ _ l2 _ ⟨h2.nd, fun x hx => ?_, fun k b hb => ?_⟩ (hf.put _ _) hR hK⟩
      · have e : k ≠ z := fun e => by rw [e, Ov.put_same] at hu; cases hu
        rw [Ov.put_ne _ _ e] at hu
        exact (h3.keep k (Nat.lt_of_lt_of_le hk hW.all.size) e).trans (hW.keep k hk hu)
      · by_cases e : k = z
        · subst e
          rw [Ov.put_same] at hu
          injection hu with hu
          rw [hz, hu]
        · rw [Ov.put_ne _ _ e] at hu
          have := hW.has k b hu
          exact (h3.keep k (Array.getElem?_eq_some_iff.1 this).1 e).trans this
      · by_cases e : x.1 = z
        · subst e
          rw [Ov.put_same, ← hz]
          exact (h2.blk x hx).2
        · rw [Ov.put_ne _ _ e]
          exact hv.at_ x (h3.sub x hx e)
      · by_cases e : k = z
        · subst e; exact hz0
        · rw [Ov.put_ne _ _ e] at hb
          exact hv.lo k b hb
theorem wp_region_X {id : Nat} {ol : List Oper} (N : Nat) (ks : List KdX) (H : Hid (Hm w0 w M ob l)) (hm : P.follows .mixedOrders = true) (hB : Region.lexTailB .any ol.toArray N = true) (hE : edgesX .any ol.toArray (fun k => ks.getD k .q) N = true)
    (h : wpX P ol.toArray w0 w (fun k => ks.getD k .q) (fun a'' l' => ∀ W, Hid (Hm w0 W M ob l') → wpList P ol.toArray Q (ol.drop N) a'' W) 0 (ol.take N) a l) : (Code.region id ol.toArray true).wp P Q a w := by
  have hp := H.out.hp
  have hok : (ovOf l).ok w w := ⟨Below.refl 0 w, fun _ _ _ => rfl, fun k b hu => by
    obtain ⟨x, hx, rfl, rfl⟩ := ovOf_mem_b hp.nd hu
    exact (hp.blk x hx).2⟩
  have hv : VwX w0 w M (ovOf l) l := ⟨hp.nd, fun x hx => ovOf_mem hp.nd hx, fun k b hu => by
    obtain ⟨x, hx, rfl, _⟩ := ovOf_mem_b hp.nd hu
    exact ⟨(hp.blk x hx).1, H.out.out x hx⟩⟩
  have hf : (ovOf l).fin := ⟨w.heap.size, fun g b hu => by
    obtain ⟨x, hx, rfl, _⟩ := ovOf_mem_b hp.nd hu
    exact hp.lt hx⟩
  refine wp_region_uniX N _ (ovOf l) hf hok (fun _ _ _ h _ => absurd trivial h) hm hB hE ?_
  refine wpUX_of hp H.out.lt _ 0 a l _ hv hf (fun a'' l2 U2 hv2 hR W hW => hR W (Lib.hid ⟨hv2.hp hp hW, ?_, fun x hx => (hv2.lo _ _ (hv2.at_ x hx)).2⟩)) h
  have : U2 M = none := by
    cases hu : U2 M with
    | none => rfl
    | some b => exact absurd rfl (hv2.lo M b hu).2
  exact (hW.keep M H.out.lt this).trans H.out.mp
end
end Go.Proofs.Ythepafendopfhaa
