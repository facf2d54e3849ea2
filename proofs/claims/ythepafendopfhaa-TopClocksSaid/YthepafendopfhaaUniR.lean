/- As Uni and HeapU, with a further kind of operation: it reads or calls, leaves all as it is, and yields a value that is known ahead, in every world in which what lay there is as it was: it may change places with the making of a block. No program. -/
import Derived.Test.YthepafendopfhaaHeapU
namespace Go.Proofs.Ythepafendopfhaa
open Go.RowKit
set_option linter.unusedVariables false

theorem Ov.still.put {U : Ov} {w : World} (h : U.still w) {g : Nat} (b : Obj) (hg : w.heap.size ≤ g) : (U.put g b).still w := fun k c hk hu => h k c hk (by rwa [Ov.put_ne _ _ (by omega)] at hu)
theorem Ov.still.of_put {U : Ov} {w : World} {g : Nat} {b : Obj} (h : (U.put g b).still w) (hf : U g = none) : U.still w := fun k c hk hu => h k c hk (by rw [Ov.put_ne _ _ (fun e => by subst e; rw [hf] at hu; cases hu)]; exact hu)
section
variable {P : Program} {ops : Array Oper} {md : Region.Mode} {w : World} {Z : Nat → Prop}
def YieldsR (P : Program) (ops : Array Oper) (w : World) (o : Oper) (v : Value) (a : Act) : Prop :=
  (Region.wanted o (yielded ops a.tmps) = true ∧ ∀ W, Below w.heap.size w W → keepsAt P o a W v) ∨ (Region.wanted o (yielded ops a.tmps) = false ∧ v = undef)
inductive KdR | q | p | a | s | r (v : Value)
def EffR (P : Program) (ops : Array Oper) (Z : Nat → Prop) (w : World) (o : Oper) (a : Act) (U : Ov) (K : Act → Ov → Prop) : KdR → Prop
  | .q => ∃ v, YieldsU P ops w U o v a ∧ K (a.put o.dst v) U
  | .p => ∃ v, YieldsP P ops Z w o v a ∧ K (a.put o.dst v) U
  | .a => ∃ mk b, AllocsAt P ops o a mk b ∧ ∀ g, w.heap.size ≤ g → U g = none → K (a.put o.dst (mk g)) (U.put g b)
  | .s => ∃ z b0 b1 v, (Z z ∨ w.heap.size ≤ z) ∧ U z = some b0 ∧ StoresV P ops Z w o a z b0 b1 v ∧ K (a.put o.dst v) (U.put z b1)
  | .r v => U.still w ∧ YieldsR P ops w o v a ∧ K (a.put o.dst v) U
/-- These two must not change places: the later one has to wait. -/
def needR : KdR → KdR → Bool
  | .q, .s => true
  | .s, .q => true
  | .s, .s => true
  | .a, .q => true
  | .a, .p => true
  | .a, .s => true
  | .r _, .s => true
  | .s, .r _ => true
  | _, _ => false
theorem EffR.mono {o : Oper} {a : Act} {U : Ov} {K K' : Act → Ov → Prop} {k : KdR} (hK : ∀ a U, K a U → K' a U) (h : EffR P ops Z w o a U K k) : EffR P ops Z w o a U K' k := by
  cases k with
  | q => obtain ⟨v, h1, h2⟩ := h; exact ⟨v, h1, hK _ _ h2⟩
  | p => obtain ⟨v, h1, h2⟩ := h; exact ⟨v, h1, hK _ _ h2⟩
  | a => obtain ⟨mk, b, h1, h2⟩ := h; exact ⟨mk, b, h1, fun g h3 h4 => hK _ _ (h2 g h3 h4)⟩
  | s => obtain ⟨z, b0, b1, v, h0, h1, h2, h3⟩ := h; exact ⟨z, b0, b1, v, h0, h1, h2, hK _ _ h3⟩
  | r v => obtain ⟨h0, h1, h2⟩ := h; exact ⟨h0, h1, hK _ _ h2⟩
section
variable {oi oj : Oper} {a : Act} {U : Ov} {K : Act → Ov → Prop}
/-- What may change places does. -/
theorem EffR.comm {ki kj : KdR} (hn : needR ki kj = false) (si : ∀ cs b, oi.op ≠ .select cs b) (sj : ∀ cs b, oj.op ≠ .select cs b) (hap : oi.apart ops oj = true) (hU : U.fin)
    (h : EffR P ops Z w oi a U (fun a1 U1 => EffR P ops Z w oj a1 U1 K kj) ki) : EffR P ops Z w oj a U (fun a2 U2 => EffR P ops Z w oi a2 U2 K ki) kj := by
  obtain ⟨h1, h2, h3⟩ := Oper.apart_spec hap
  have ej : ∀ u, execOp (a.put oi.dst u).eval oj = execOp a.eval oj := fun u => execOp_put oj sj a oi.dst u h1
  have wj : ∀ u, Region.wanted oj (yielded ops (a.put oi.dst u).tmps) = Region.wanted oj (yielded ops a.tmps) := fun u => wanted_put oj a oi.dst u h1
  have ei : ∀ u, execOp (a.put oj.dst u).eval oi = execOp a.eval oi := fun u => execOp_put oi si a oj.dst u h3
  have wi : ∀ u, Region.wanted oi (yielded ops (a.put oj.dst u).tmps) = Region.wanted oi (yielded ops a.tmps) := fun u => wanted_put oi a oj.dst u h3
  have qj : ∀ {V : Ov} {v u}, YieldsU P ops w V oj v (a.put oi.dst u) → YieldsU P ops w V oj v a := fun hy => by unfold YieldsU keepsAt at *; rw [ej, wj] at hy; exact hy
  have pj : ∀ {v u}, YieldsP P ops Z w oj v (a.put oi.dst u) → YieldsP P ops Z w oj v a := fun hy => by unfold YieldsP keepsAt at *; rw [ej, wj] at hy; exact hy
  have aj : ∀ {mk b u}, AllocsAt P ops oj (a.put oi.dst u) mk b → AllocsAt P ops oj a mk b := fun hy => by unfold AllocsAt at *; rw [ej, wj] at hy; exact hy
  have sj' : ∀ {z b0 b1 v u}, StoresV P ops Z w oj (a.put oi.dst u) z b0 b1 v → StoresV P ops Z w oj a z b0 b1 v := fun hy => by unfold StoresV at *; rw [ej, wj] at hy; exact hy
  have qi : ∀ {V : Ov} {v u}, YieldsU P ops w V oi v a → YieldsU P ops w V oi v (a.put oj.dst u) := fun hy => by unfold YieldsU keepsAt at *; rw [ei, wi]; exact hy
  have pi' : ∀ {v u}, YieldsP P ops Z w oi v a → YieldsP P ops Z w oi v (a.put oj.dst u) := fun hy => by unfold YieldsP keepsAt at *; rw [ei, wi]; exact hy
  have ai : ∀ {mk b u}, AllocsAt P ops oi a mk b → AllocsAt P ops oi (a.put oj.dst u) mk b := fun hy => by unfold AllocsAt at *; rw [ei, wi]; exact hy
  have si' : ∀ {z b0 b1 v u}, StoresV P ops Z w oi a z b0 b1 v → StoresV P ops Z w oi (a.put oj.dst u) z b0 b1 v := fun hy => by unfold StoresV at *; rw [ei, wi]; exact hy
  have pc : ∀ v u, (a.put oj.dst u).put oi.dst v = (a.put oi.dst v).put oj.dst u := fun v u => (Act.put_comm a v u h2).symm
  have less : ∀ {v g b}, w.heap.size ≤ g → U g = none → YieldsU P ops w U oi v a → YieldsU P ops w (U.put g b) oi v a := fun hg hf hy => by
    rcases hy with ⟨y1, y2⟩ | y
    · exact .inl ⟨y1, fun W hW => y2 W (hW.less hg hf)⟩
    · exact .inr y
  have rj : ∀ {v u}, YieldsR P ops w oj v (a.put oi.dst u) → YieldsR P ops w oj v a := fun hy => by unfold YieldsR keepsAt at *; rw [ej, wj] at hy; exact hy
  have ri : ∀ {v u}, YieldsR P ops w oi v a → YieldsR P ops w oi v (a.put oj.dst u) := fun hy => by unfold YieldsR keepsAt at *; rw [ei, wi]; exact hy
  cases ki <;> cases kj <;> simp only [needR] at hn
  all_goals first | exact absurd hn (by decide) | skip
  · obtain ⟨v, hv, u, hu, hK⟩ := h
    exact ⟨u, qj hu, v, qi hv, by rw [pc]; exact hK⟩
  · obtain ⟨v, hv, u, hu, hK⟩ := h
    exact ⟨u, pj hu, v, qi hv, by rw [pc]; exact hK⟩
  · obtain ⟨v, hv, mk, b, hA, hK⟩ := h
    exact ⟨mk, b, aj hA, fun g hg hf => ⟨v, qi (less hg hf hv), by rw [pc]; exact hK g hg hf⟩⟩
  · obtain ⟨v, hv, hs, hu, hK⟩ := h
    exact ⟨hs, rj hu, v, qi hv, by rw [pc]; exact hK⟩
  · obtain ⟨v, hv, u, hu, hK⟩ := h
    exact ⟨u, qj hu, v, pi' hv, by rw [pc]; exact hK⟩
  · obtain ⟨v, hv, u, hu, hK⟩ := h
    exact ⟨u, pj hu, v, pi' hv, by rw [pc]; exact hK⟩
  · obtain ⟨v, hv, mk, b, hA, hK⟩ := h
    exact ⟨mk, b, aj hA, fun g hg hf => ⟨v, pi' hv, by rw [pc]; exact hK g hg hf⟩⟩
  · obtain ⟨v, hv, z, b0, b1, x, hZ, hz, hS, hK⟩ := h
    exact ⟨z, b0, b1, x, hZ, hz, sj' hS, v, pi' hv, by rw [pc]; exact hK⟩
  · obtain ⟨v, hv, hs, hu, hK⟩ := h
    exact ⟨hs, rj hu, v, pi' hv, by rw [pc]; exact hK⟩
  · obtain ⟨mk, b, hA, H⟩ := h
    obtain ⟨g0, hg0, hf0⟩ := hU.new w.heap.size
    obtain ⟨mk', b', hA', _⟩ := H g0 hg0 hf0
    refine ⟨mk', b', aj hA', fun g' hg' hf' => ⟨mk, b, ai hA, fun g hg hf => ?_⟩⟩
    have hne : g ≠ g' := fun e => by subst e; rw [Ov.put_same] at hf; cases hf
    rw [Ov.put_ne _ _ hne] at hf
    obtain ⟨mk2, b2, hA2, hK⟩ := H g hg hf
    obtain ⟨rfl, rfl⟩ := AllocsAt.uniq w (aj hA') (aj hA2)
    rw [pc, Ov.put_comm U b' b (Ne.symm hne)]
    exact hK g' hg' (by rw [Ov.put_ne _ _ (Ne.symm hne)]; exact hf')
  · obtain ⟨mk, b, hA, H⟩ := h
    obtain ⟨g0, hg0, hf0⟩ := hU.new w.heap.size
    obtain ⟨hs, hu, _⟩ := H g0 hg0 hf0
    exact ⟨hs.of_put hf0, rj hu, mk, b, ai hA, fun g hg hf => by
      obtain ⟨_, _, hK⟩ := H g hg hf
      rw [pc]
      exact hK⟩
  · obtain ⟨z, b0, b1, x, hZ, hz, hS, u, hu, hK⟩ := h
    exact ⟨u, pj hu, z, b0, b1, x, hZ, hz, si' hS, by rw [pc]; exact hK⟩
  · obtain ⟨z, b0, b1, x, hZ, hz, hS, mk, b, hA, hK⟩ := h
    refine ⟨mk, b, aj hA, fun g hg hf => ?_⟩
    have hne : z ≠ g := fun e => by subst e; rw [hf] at hz; cases hz
    refine ⟨z, b0, b1, x, hZ, by rw [Ov.put_ne _ _ hne]; exact hz, si' hS, ?_⟩
    rw [pc, Ov.put_comm U b b1 (Ne.symm hne)]
    exact hK g hg (by rw [Ov.put_ne _ _ (Ne.symm hne)]; exact hf)
  · obtain ⟨hs, hv, u, hu, hK⟩ := h
    exact ⟨u, qj hu, hs, ri hv, by rw [pc]; exact hK⟩
  · obtain ⟨hs, hv, u, hu, hK⟩ := h
    exact ⟨u, pj hu, hs, ri hv, by rw [pc]; exact hK⟩
  · obtain ⟨hs, hv, mk, b, hA, hK⟩ := h
    exact ⟨mk, b, aj hA, fun g hg hf => ⟨hs.put b hg, ri hv, by rw [pc]; exact hK g hg hf⟩⟩
  · obtain ⟨hs, hv, hs2, hu, hK⟩ := h
    exact ⟨hs2, rj hu, hs, ri hv, by rw [pc]; exact hK⟩
end
theorem EffR.fin {o : Oper} {a : Act} {U : Ov} {K : Act → Ov → Prop} {k : KdR} (hU : U.fin) (h : EffR P ops Z w o a U K k) : EffR P ops Z w o a U (fun a' U' => U'.fin ∧ K a' U') k := by
  cases k with
  | q => obtain ⟨v, h1, h2⟩ := h; exact ⟨v, h1, hU, h2⟩
  | p => obtain ⟨v, h1, h2⟩ := h; exact ⟨v, h1, hU, h2⟩
  | a => obtain ⟨mk, b, h1, h2⟩ := h; exact ⟨mk, b, h1, fun g h3 h4 => ⟨hU.put _ _, h2 g h3 h4⟩⟩
  | s => obtain ⟨z, b0, b1, v, h0, h1, h2, h3⟩ := h; exact ⟨z, b0, b1, v, h0, h1, h2, hU.put _ _, h3⟩
  | r v => obtain ⟨h0, h1, h2⟩ := h; exact ⟨h0, h1, hU, h2⟩
def edgesR (md : Region.Mode) (ops : Array Oper) (kd : Nat → KdR) (N : Nat) : Bool := (List.range N).all fun j => (List.range j).all fun i => !needR (kd i) (kd j) || reachB md ops i N j
theorem edgesR_spec {kd : Nat → KdR} {N : Nat} (h : edgesR md ops kd N = true) {j i : Nat} (hj : j < N) (hi : i < j) (hn : needR (kd i) (kd j) = true) : reachB md ops i N j = true := by
  unfold edgesR at h
  have h1 := List.all_eq_true.1 (List.all_eq_true.1 h j (List.mem_range.2 hj)) i (List.mem_range.2 hi)
  rw [hn] at h1
  simpa using h1

/-! Every order -/
def HeadR (P : Program) (md : Region.Mode) (ops : Array Oper) (Z : Nat → Prop) (w : World) (kd : Nat → KdR) (N : Nat) (L : Array Bool → Act → Ov → Prop) : Nat → Array Bool → Act → Ov → Prop
  | 0, done, a, U => L done a U
  | f + 1, done, a, U => Region.ready md ops done ≠ [] ∧ ∀ i ∈ Region.ready md ops done, i < N ∧ ∃ o, ops[i]? = some o ∧ EffR P ops Z w o a U (HeadR P md ops Z w kd N L f (done.setIfInBounds i true)) (kd i)
variable {kd : Nat → KdR} {N : Nat}
theorem HeadR.any {L : Array Bool → Act → Ov → Prop} {g : Nat} {Q : Exit → Act → World → Prop} (hL : ∀ done a U W, Ov.ok U w W → L done a U → wpAny P md ops Q g done a W) (f : Nat) :
    ∀ (done : Array Bool) (a : Act) (U : Ov) (W : World), Ov.ok U w W → U.inv Z w → HeadR P md ops Z w kd N L f done a U → wpAny P md ops Q (f + g) done a W := by
  induction f with
  | zero => intro done a U W hw _ h; rw [Nat.zero_add]; exact hL _ _ _ _ hw h
  | succ f ih =>
    intro done a U W hw hI h
    rw [show f + 1 + g = (f + g) + 1 by omega]
    refine ⟨fun h0 => absurd h0 h.1, fun i hi => ?_⟩
    obtain ⟨_, o, ho, hE⟩ := h.2 i hi
    cases hkd : kd i with
    | q =>
      rw [hkd] at hE
      obtain ⟨v, hy, hK⟩ := hE
      refine wpOp_of_qOp (C := fun w' => Below W.heap.size W w') (K := fun a' => a' = a.put o.dst v) (Below.refl _ _) (fun a' w' hw' e => by subst e; exact ih _ _ _ _ (hw.go hw') hI hK) ?_
      unfold qOp
      simp only [ho]
      rcases hy with ⟨h1, h2⟩ | ⟨h1, rfl⟩
      · rw [if_pos h1]
        exact ⟨v, fun w' hw' => quietUpon_mono (fun w'' h' => hw'.trans (h'.mono hw'.size)) (h2 w' (hw.go hw')), rfl⟩
      · rw [if_neg (by rw [h1]; exact Bool.false_ne_true)]
    | p =>
      rw [hkd] at hE
      obtain ⟨v, hy, hK⟩ := hE
      refine wpOp_of_qOp (C := fun w' => Below W.heap.size W w') (K := fun a' => a' = a.put o.dst v) (Below.refl _ _) (fun a' w' hw' e => by subst e; exact ih _ _ _ _ (hw.go hw') hI hK) ?_
      unfold qOp
      simp only [ho]
      rcases hy with ⟨h1, h2⟩ | ⟨h1, rfl⟩
      · rw [if_pos h1]
        exact ⟨v, fun w' hw' => quietUpon_mono (fun w'' h' => hw'.trans (h'.mono hw'.size)) (h2 w' ((hw.st hI).go hw')), rfl⟩
      · rw [if_neg (by rw [h1]; exact Bool.false_ne_true)]
    | a =>
      rw [hkd] at hE
      obtain ⟨mk, b, ⟨h1, h2⟩, hK⟩ := hE
      unfold wpOp
      simp only [ho]
      rw [if_pos h1]
      refine .inl ?_
      unfold Oper.wp
      rw [h2, Oper.upon_value]
      exact ih _ _ _ _ (hw.alloc b) (hI.put b (.inr hw.all.size)) (hK _ hw.all.size hw.new)
    | s =>
      rw [hkd] at hE
      obtain ⟨z, b0, b1, v, hZ, hz0, ⟨h1, h2⟩, hK⟩ := hE
      have h3 := h2 W (hw.st hI) (hw.has z b0 hz0)
      unfold wpOp
      simp only [ho]
      rw [if_pos h1]
      refine .inl ?_
      unfold Oper.wp
      generalize (execOp a.eval o).run P W = r at h3
      cases r with
      | ok n W' =>
        cases n <;> simp only [upZ] at h3 <;> simp only [Oper.upon]
        case value u =>
          obtain ⟨e1, hz', hk, hB⟩ := h3
          rw [e1]
          exact ih _ _ _ _ (hw.store hz' hk hB) (hI.put b1 hZ) hK
        case skip =>
          obtain ⟨e1, hz', hk, hB⟩ := h3
          rw [← e1]
          exact ih _ _ _ _ (hw.store hz' hk hB) (hI.put b1 hZ) hK
        case enter f' args =>
          obtain ⟨e1, hc⟩ := h3
          rw [e1]
          exact hc.mono fun e w'' ⟨he, hz', hk, hB⟩ => by subst he; exact ih _ _ _ _ (hw.store hz' hk hB) (hI.put b1 hZ) hK
      | halt x W' => simp only [upZ] at h3
    | r v =>
      rw [hkd] at hE
      obtain ⟨hs, hy, hK⟩ := hE
      refine wpOp_of_qOp (C := fun w' => Below W.heap.size W w') (K := fun a' => a' = a.put o.dst v) (Below.refl _ _) (fun a' w' hw' e => by subst e; exact ih _ _ _ _ (hw.go hw') hI hK) ?_
      unfold qOp
      simp only [ho]
      rcases hy with ⟨h1, h2⟩ | ⟨h1, rfl⟩
      · rw [if_pos h1]
        exact ⟨v, fun w' hw' => quietUpon_mono (fun w'' h' => hw'.trans (h'.mono hw'.size)) (h2 w' ((hw.go hw').below hs)), rfl⟩
      · rw [if_neg (by rw [h1]; exact Bool.false_ne_true)]

theorem HeadR.first {L : Array Bool → Act → Ov → Prop} {i : Nat} {oi : Oper} (hi : ops[i]? = some oi) (hiN : i < N) (hsel : ∀ (j : Nat) (o : Oper) cs b, ops[j]? = some o → o.op ≠ .select cs b)
    (hE : edgesR md ops kd N = true) (hs : Region.sinkB md ops N = true) (hc : Region.chainB md ops N = true) (hn : N < ops.size) (hL : ∀ done a U, L done a U → ∀ j ∈ Region.ready md ops done, N ≤ j) (f : Nat) :
    ∀ (done : Array Bool) (a : Act) (U : Ov), HeadInv md ops N done → U.fin → (∀ j, j < i → done.getD j true = true) →
      (∀ j oj, ops[j]? = some oj → j ≠ i → done.getD j true = false → (∀ e ∈ oj.after, Region.binds md e = true → e.on ≠ i) → oi.apart ops oj = true) →
      i ∈ Region.ready md ops done → EffR P ops Z w oi a U (HeadR P md ops Z w kd N L f (done.setIfInBounds i true)) (kd i) → HeadR P md ops Z w kd N L (f + 1) done a U := by
  have low : ∀ done, HeadInv md ops N done → i ∈ Region.ready md ops done → ∀ j ∈ Region.ready md ops done, j < N := fun done inv hr j hj => by
    rcases Nat.lt_or_ge j N with h | h
    · exact h
    · exact absurd hj (tail_waits hs hc hn inv _ i rfl hiN (mem_ready.1 hr).1 j h)
  have some_one : ∀ {o : Oper} {a : Act} {U : Ov} {K : Act → Ov → Prop} {k : KdR}, U.fin → EffR P ops Z w o a U K k → ∃ a' U', K a' U' := by
    intro o a U K k hU h
    cases k with
    | q => obtain ⟨v, _, h2⟩ := h; exact ⟨_, _, h2⟩
    | p => obtain ⟨v, _, h2⟩ := h; exact ⟨_, _, h2⟩
    | a => obtain ⟨mk, b, _, h2⟩ := h; obtain ⟨g, h3, h4⟩ := hU.new w.heap.size; exact ⟨_, _, h2 g h3 h4⟩
    | s => obtain ⟨z, b0, b1, v, _, _, _, h2⟩ := h; exact ⟨_, _, h2⟩
    | r v => obtain ⟨_, _, h2⟩ := h; exact ⟨_, _, h2⟩
  induction f with
  | zero =>
    intro done a U inv hU _ _ hr H
    refine ⟨fun h => (by rw [h] at hr; cases hr), fun j hj => ⟨low done inv hr j hj, ?_⟩⟩
    rcases Nat.decEq j i with hji | hji
    · obtain ⟨a', U', hl⟩ := some_one hU H
      have := hL _ _ _ hl j (ready_mono hj hji)
      have := low done inv hr j hj
      omega
    · subst hji; exact ⟨oi, hi, H⟩
  | succ f ih =>
    intro done a U inv hU hd hfree hr H
    refine ⟨fun h => (by rw [h] at hr; cases hr), fun j hj => ⟨low done inv hr j hj, ?_⟩⟩
    rcases Nat.decEq j i with hji | hji
    · obtain ⟨hjun, oj, hoj, hall⟩ := mem_ready.1 hj
      have hun := (mem_ready.1 hr).1
      have hnot : ∀ e ∈ oj.after, Region.binds md e = true → e.on ≠ i := fun e he hb heq => by
        have h1 := hall e he hb
        rw [heq, getD_both hun] at h1
        cases h1
      have hap := hfree j oj hoj hji hjun hnot
      have back : ∀ k, (done.setIfInBounds j true).getD k true = false → done.getD k true = false := fun k hk => by
        rcases Nat.decEq j k with hjk | hjk
        · rw [getD_set_ne true hjk] at hk; exact hk
        · subst hjk; exact hjun
      have hij : i < j := by
        rcases Nat.lt_or_ge i j with h | h
        · exact h
        · have := hd j (by omega)
          rw [hjun] at this
          cases this
      have hjN := low done inv hr j hj
      have hne : needR (kd i) (kd j) = false := by
        cases hq : needR (kd i) (kd j) with
        | false => rfl
        | true => exact absurd hj (reach_waits inv (edgesR_spec hE hjN hij hq) hun)
      refine ⟨oj, hoj, ?_⟩
      have H2 : EffR P ops Z w oi a U (fun a1 U1 => EffR P ops Z w oj a1 U1 (HeadR P md ops Z w kd N L f ((done.setIfInBounds j true).setIfInBounds i true)) (kd j)) (kd i) := H.mono fun a1 U1 h => by
        obtain ⟨_, oj', hoj', hh⟩ := h.2 j (ready_mono hj hji)
        obtain rfl : oj = oj' := Option.some.inj (hoj.symm.trans hoj')
        rw [Array.setIfInBounds_comm _ _ hji]
        exact hh
      have H3 := EffR.fin hU (EffR.comm hne (fun cs b => hsel i oi cs b hi) (fun cs b => hsel j oj cs b hoj) hap hU H2)
      refine H3.mono fun a2 U2 ⟨hf2, h2⟩ => ih _ a2 U2 (inv.set hj hjN) hf2 (fun k hk => by rw [getD_set_ne true (by omega)]; exact hd k hk) (fun k ok hk hki hun' hno => hfree k ok hk hki (back k hun') hno) (ready_mono hr (Ne.symm hji)) h2
    · subst hji; exact ⟨oi, hi, H⟩

/-- The walk in the text's order. -/
def wpUR (P : Program) (ops : Array Oper) (Z : Nat → Prop) (w : World) (kd : Nat → KdR) (R : Act → Ov → Prop) : Nat → List Oper → Act → Ov → Prop
  | _, [], a, U => R a U
  | k, o :: os, a, U => EffR P ops Z w o a U (wpUR P ops Z w kd R (k + 1) os) (kd k)
theorem HeadR.lex {g : Nat} {R : Act → Ov → Prop} (hsel : Region.noSelect ops = true) (hE : edgesR md ops kd N = true) (hs : Region.sinkB md ops N = true) (hc : Region.chainB md ops N = true) (hn : N < ops.size) (l : List Oper) :
    ∀ (k : Nat) (done : Array Bool) (a : Act) (U : Ov), (∀ j, j < l.length → l[j]? = ops[k + j]?) → k + l.length = N → HeadInv md ops N done → (∀ j, j < k → done.getD j true = true) → U.fin →
      Region.lexHead md ops g l.length k done = true → wpUR P ops Z w kd R k l a U →
      HeadR P md ops Z w kd N (fun done' a' U' => Region.seqB md ops g N done' = true ∧ R a' U') l.length done a U := by
  induction l with
  | nil =>
    intro k done a U _ hk _ _ _ hB h
    obtain rfl : k = N := by simpa using hk
    exact ⟨by simpa [Region.lexHead] using hB, h⟩
  | cons o l ih =>
    intro k done a U hl hk inv hd hU hB h
    have h0 : ops[k]? = some o := by simpa using (hl 0 (by simp)).symm
    simp only [List.length_cons] at hk hB ⊢
    rw [Region.lexHead, Bool.and_eq_true, Bool.and_eq_true] at hB
    obtain ⟨⟨hr, hf⟩, hB'⟩ := hB
    have hr' : k ∈ Region.ready md ops done := by simpa using hr
    have hd' : ∀ j, j < k + 1 → (done.setIfInBounds k true).getD j true = true := fun j hj => by
      rcases Nat.decEq k j with hkj | hkj
      · rw [getD_set_ne true hkj]; exact hd j (by omega)
      · subst hkj
        have hks : k < done.size := by rw [inv.size]; omega
        simp [hks]
    refine HeadR.first h0 (by omega) (Region.noSelect_spec hsel) hE hs hc hn (fun done' a' U' hL => seqB_ready hL.1) l.length done a U inv hU hd (Region.free_spec h0 hf) hr' ?_
    exact (EffR.fin hU h).mono fun a' U' ⟨hf', h'⟩ => ih (k + 1) _ a' U' (fun j hj => by have := hl (j + 1) (by simp; omega); simpa [Nat.add_assoc, Nat.add_comm 1 j] using this) (by omega) (inv.set hr' (by omega)) hd' hf' hB' h'

/-- **A drawn region**, walked in the text's order. -/
theorem wp_region_uniR {id : Nat} {Q : Exit → Act → World → Prop} {a : Act} {l : List Oper} (N : Nat) (kd : Nat → KdR) (U : Ov) (hU : U.fin) (hok : U.ok w w) (hI : U.inv Z w) (hm : P.follows .mixedOrders = true) (hB : Region.lexTailB .any l.toArray N = true) (hE : edgesR .any l.toArray kd N = true)
    (h : wpUR P l.toArray Z w kd (fun a' U' => ∀ W, U'.ok w W → wpList P l.toArray Q (l.drop N) a' W) 0 (l.take N) a U) : (Code.region id l.toArray true).wp P Q a w := by
  simp only [Region.lexTailB, Bool.and_eq_true, decide_eq_true_eq] at hB
  obtain ⟨⟨⟨⟨hsel, hn⟩, hs⟩, hc⟩, hlex⟩ := hB
  have hn' : N < l.length := by simpa using hn
  have htl : (l.take N).length = N := by simp; omega
  have hdl : (l.drop N).length = l.toArray.size - N := by simp
  have start : HeadInv .any l.toArray N (Array.replicate l.toArray.size false) := by
    constructor
    · simp
    · intro j oj _ hl; rw [getD_replicate_false] at hl; cases hl
    · intro t _ ht; exact getD_in (by simpa using ht) (getD_replicate_false _ _)
  have H := HeadR.lex (P := P) (w := w) (md := .any) (kd := kd) (N := N) (g := l.toArray.size - N) (R := fun a' U' => ∀ W, U'.ok w W → wpList P l.toArray Q (l.drop N) a' W) hsel hE hs hc hn (l.take N) 0 _ a U
    (fun j hj => by rw [htl] at hj; simp [hj]) (by rw [htl]; omega) start (fun j hj => by omega) hU (by rw [htl]; exact hlex) h
  rw [htl] at H
  refine wp_region_any hm ?_
  have := HeadR.any (Q := Q) (g := l.toArray.size - N) (fun done a' U' W hW hL => by
    have := wpAny_of_seq (md := .any) (Q' := Q) (l.drop N) N done a' W (fun j => by simp [List.getElem?_drop]) (by rw [hdl]; exact hL.1) (hL.2 W hW)
    rwa [hdl] at this) _ _ _ _ _ (show Ov.ok U w { w with drawn := w.drawn + 1 } from ⟨(Below.refl 0 w).drew, hok.keep, hok.has⟩) hI H
  rwa [show N + (l.toArray.size - N) = l.toArray.size by omega] at this
end

section
variable {P : Program} {ops : Array Oper} {rest : List Oper} {o : Oper} {a : Act} {w0 w : World} {l l' : Ents} {Q : Exit → Act → World → Prop} {kd : Nat → KdR} {k : Nat} {R : Act → Ents → Prop} {st : Bool}
/-- The walk over the list of blocks; st: nothing has been stored yet. -/
def wpR (P : Program) (ops : Array Oper) (w0 w : World) (kd : Nat → KdR) (R : Act → Ents → Prop) : Nat → List Oper → Act → Ents → Bool → Prop
  | _, [], a, l, _ => R a l
  | k, o :: os, a, l, st =>
    (kd k = .q ∧ ∃ v, YieldsL P ops w0 w l o v a ∧ wpR P ops w0 w kd R (k + 1) os (a.put o.dst v) l st) ∨
    (kd k = .p ∧ ∃ v, YieldsP P ops (fun _ => True) w o v a ∧ wpR P ops w0 w kd R (k + 1) os (a.put o.dst v) l st) ∨
    (kd k = .a ∧ ∃ mk t cs, AllocsAt P ops o a mk (.cells cs.toArray t (0, 0)) ∧ ∀ g, wpR P ops w0 w kd R (k + 1) os (a.put o.dst (mk g)) ((g, t, cs) :: l) st) ∨
    (kd k = .s ∧ ∃ z T cs ds l', Upd l z T cs ds l' ∧ StoresZ P ops o a z (.cells cs.toArray T (0, 0)) (.cells ds.toArray T (0, 0)) ∧ wpR P ops w0 w kd R (k + 1) os (a.put o.dst undef) l' false) ∨
    (∃ v, kd k = .r v ∧ st = true ∧ YieldsR P ops w o v a ∧ wpR P ops w0 w kd R (k + 1) os (a.put o.dst v) l st)
theorem wpR_nil (h : R a l) : wpR P ops w0 w kd R k [] a l st := h
theorem wpR_P {v : Value} (hp : kd k = .p) (hg : Region.wanted o (yielded ops a.tmps) = true) (hr : ∀ W, (execOp a.eval o).run P W = .ok (.value v) W) (h : wpR P ops w0 w kd R (k + 1) rest (a.put o.dst v) l st) : wpR P ops w0 w kd R k (o :: rest) a l st :=
  .inr (.inl ⟨hp, v, .inl ⟨hg, fun W _ => by unfold keepsAt; rw [hr W]; exact ⟨rfl, rfl⟩⟩, h⟩)
theorem wpR_C {v : Value} (hp : kd k = .q) (hg : Region.wanted o (yielded ops a.tmps) = true) (hr : ∀ W, Hid (Hp w0 W l) → keepsAt P o a W v) (h : wpR P ops w0 w kd R (k + 1) rest (a.put o.dst v) l st) : wpR P ops w0 w kd R k (o :: rest) a l st :=
  .inl ⟨hp, v, .inl ⟨hg, fun W _ hW => hr W hW⟩, h⟩
theorem wpR_load {t T : TypeId} {p : Operand} {b j n : Nat} {cs ds : List Value} (hk : kd k = .q) (ho : o.op = .load t p) (hg : Region.wanted o (yielded ops a.tmps) = true) (hT : RowT P t n) (hp : a.eval p = .pointer (some ⟨b, j, none⟩))
    (hm : (b, T, cs) ∈ l) (hx : (cs.drop j).take n = ds) (hl : ds.length = n) (h : wpR P ops w0 w kd R (k + 1) rest (a.put o.dst (.agg ds.toArray)) l st) : wpR P ops w0 w kd R k (o :: rest) a l st :=
  wpR_C hk hg (fun W hW => by
    have hr := run_loadB (P := P) (t := t) (k := j) (hW.out.get hm) hT (by simpa using hx) hl
    unfold keepsAt execOp
    simp only [ho, hp, hr, Sem.run_bind, Sem.run_pure, Result.andThen_ok]
    exact ⟨rfl, rfl⟩) h
theorem wpR_A {t : TypeId} {cs : List Value} (hp : kd k = .a) (hA : Allocs P ops o (.cells cs.toArray t)) (h : ∀ g, wpR P ops w0 w kd R (k + 1) rest (a.put o.dst (.pointer (some ⟨g, 0, none⟩))) ((g, t, cs) :: l) st) : wpR P ops w0 w kd R k (o :: rest) a l st :=
  .inr (.inr (.inl ⟨hp, fun g => .pointer (some ⟨g, 0, none⟩), t, cs, ⟨(hA a w).1, fun W => (hA a W).2⟩, h⟩))
theorem wpR_V (t : TypeId) (cs : List Value) (n : Nat) (hp : kd k = .a) (hg : o.guard = none) (hr : ∀ W : World, (execOp a.eval o).run P W = .ok (.value (.slice (some ⟨W.heap.size, 0, none⟩) n n)) (W.alloc (.cells cs.toArray t)))
    (h : ∀ g, wpR P ops w0 w kd R (k + 1) rest (a.put o.dst (.slice (some ⟨g, 0, none⟩) n n)) ((g, t, cs) :: l) st) : wpR P ops w0 w kd R k (o :: rest) a l st :=
  .inr (.inr (.inl ⟨hp, fun g => .slice (some ⟨g, 0, none⟩) n n, t, cs, ⟨by simp [Region.wanted, hg], hr⟩, h⟩))
theorem wpR_S {t T : TypeId} {p x : Operand} {z off c : Nat} {cs vs ds : List Value} (hP : kd k = .s) (ho : o.op = .store t p x) (hg : o.guard = none) (hd : o.dst = none) (hT : RowT P t c) (hp : a.eval p = .pointer (some ⟨z, off, none⟩)) (hx : a.eval x = .agg vs.toArray)
    (hu : Upd l z T cs ds l') (hl : vs.length = c) (hc : cs.take off ++ vs ++ cs.drop (off + c) = ds) (hk : off + c ≤ cs.length) (h2 : vs.all (·.oneCell') = true) (h : wpR P ops w0 w kd R (k + 1) rest a l' false) : wpR P ops w0 w kd R k (o :: rest) a l st :=
  .inr (.inr (.inr (.inl ⟨hP, z, T, cs, ds, l', hu, storesZ_part ho hg hT hp hx hl hc hk h2, by rw [hd]; exact h⟩)))
theorem wpR_r {v : Value} (hp : kd k = .r v) (hg : Region.wanted o (yielded ops a.tmps) = true) (hr : ∀ s : Ext w, keepsAt P o a s.to v) (h : wpR P ops w0 w kd R (k + 1) rest (a.put o.dst v) l true) : wpR P ops w0 w kd R k (o :: rest) a l true :=
  .inr (.inr (.inr (.inr ⟨v, hp, rfl, .inl ⟨hg, fun W hW => hr ⟨W, hW⟩⟩, h⟩)))
theorem wpR_rload {l0 : Ents} (H0 : Hid (Hp w0 w l0)) {t T : TypeId} {p : Operand} {b j n : Nat} {cs ds : List Value} (hk : kd k = .r (.agg ds.toArray)) (ho : o.op = .load t p) (hg : Region.wanted o (yielded ops a.tmps) = true) (hT : RowT P t n) (hp : a.eval p = .pointer (some ⟨b, j, none⟩))
    (hm : (b, T, cs) ∈ l0) (hx : (cs.drop j).take n = ds) (hl : ds.length = n) (h : wpR P ops w0 w kd R (k + 1) rest (a.put o.dst (.agg ds.toArray)) l true) : wpR P ops w0 w kd R k (o :: rest) a l true :=
  wpR_r hk hg (fun s => by
    have hb : Blk s.to b T cs.toArray := (H0.out.get hm).out.below s.h (H0.out.get hm).out.lt
    have hr := run_loadB (P := P) (t := t) (k := j) (Lib.hid hb) hT (by simpa using hx) hl
    unfold keepsAt execOp
    simp only [ho, hp, hr, Sem.run_bind, Sem.run_pure, Result.andThen_ok]
    exact ⟨rfl, rfl⟩) h
theorem wpUR_of (h0 : Hp w0 w l) {R' : Act → Ov → Prop} (os : List Oper) : ∀ (k : Nat) (a : Act) (l1 : Ents) (st : Bool), (l1.map (·.1)).Nodup → (∀ x ∈ l1, w0.heap.size ≤ x.1) → (st = true → (ovOf l1).still w) →
    (∀ a' l2, (l2.map (·.1)).Nodup → (∀ x ∈ l2, w0.heap.size ≤ x.1) → R a' l2 → R' a' (ovOf l2)) → wpR P ops w0 w kd R k os a l1 st → wpUR P ops (fun _ => True) w kd R' k os a (ovOf l1) := by
  induction os with
  | nil => intro k a l1 st nd lo hst hR h; exact hR a l1 nd lo h
  | cons o os ih =>
    intro k a l1 st nd lo hst hR h
    show EffR P ops (fun _ => True) w o a (ovOf l1) (wpUR P ops (fun _ => True) w kd R' (k + 1) os) (kd k)
    rcases h with ⟨hp, v, hy, hK⟩ | ⟨hp, v, hy, hK⟩ | ⟨hp, mk, t, cs, hA, hK⟩ | ⟨hp, z, T, cs, ds, l2, hu, hS, hK⟩ | ⟨v, hp, hs, hy, hK⟩
    · rw [hp]
      refine ⟨v, ?_, ih _ _ _ _ nd lo hst hR hK⟩
      rcases hy with ⟨y1, y2⟩ | y
      · exact .inl ⟨y1, fun W hW => y2 W hW (Lib.hid (h0.of_ov nd lo hW))⟩
      · exact .inr y
    · rw [hp]
      exact ⟨v, hy, ih _ _ _ _ nd lo hst hR hK⟩
    · rw [hp]
      refine ⟨mk, _, hA, fun g hg hf => ih _ _ ((g, t, cs) :: l1) _ ?_ ?_ (fun e => (hst e).put _ hg) hR (hK g)⟩
      · rw [List.map_cons, List.nodup_cons]
        refine ⟨fun hm => ?_, nd⟩
        obtain ⟨x, hx, he⟩ := List.mem_map.1 hm
        have := ovOf_mem nd hx
        rw [he, hf] at this
        cases this
      · intro x hx
        rcases List.mem_cons.1 hx with rfl | hx
        · exact Nat.le_trans h0.bel.size hg
        · exact lo x hx
    · rw [hp]
      have e := ovOf_upd hu nd
      refine ⟨z, _, _, undef, .inl trivial, ovOf_mem nd hu.mem, hS.v, ?_⟩
      rw [← e]
      refine ih _ _ l2 _ (by rw [hu.fst]; exact nd) ?_ (fun e => by cases e) hR hK
      exact hu.all (p := fun x => w0.heap.size ≤ x.1) (q := fun x => w0.heap.size ≤ x.1) nd (fun x _ _ hx => hx) (lo (z, T, cs) hu.mem) lo
    · rw [hp]
      exact ⟨hst hs, hy, ih _ _ _ _ nd lo hst hR hK⟩
theorem wpR_pre (H : Hid (Hp w0 w l)) (l1 : List Oper) : ∀ (k : Nat) (a : Act), (∀ j, j < l1.length → kd (k + j) = .q) → wpKeep P ops w (fun a' => wpR P ops w0 w kd R (k + l1.length) rest a' l true) l1 a → wpR P ops w0 w kd R k (l1 ++ rest) a l true := by
  have hst : (ovOf l).still w := fun k b _ hu => by
    obtain ⟨x, hx, rfl, rfl⟩ := ovOf_mem_b H.out.nd hu
    exact (H.out.blk x hx).2
  induction l1 with
  | nil => intro k a _ h; exact h
  | cons o l1 ih =>
    intro k a hk h
    obtain ⟨v, hy, hK⟩ := yieldsK_of_wpKeep h
    refine .inl ⟨by simpa using hk 0 (by simp), v, ?_, ih (k + 1) _ (fun j hj => by rw [show k + 1 + j = k + (j + 1) by omega]; exact hk (j + 1) (by simp; omega)) (by rw [show k + 1 + l1.length = k + (o :: l1).length by simp only [List.length_cons]; omega]; exact hK)⟩
    rcases hy with ⟨y1, y2⟩ | y
    · exact .inl ⟨y1, fun W hW _ => y2 ⟨W, hW.below hst⟩⟩
    · exact .inr y
theorem wp_region_R {id : Nat} {ol : List Oper} (q N : Nat) (ks : List KdR) (H : Hid (Hp w0 w l)) (hm : P.follows .mixedOrders = true) (hB : Region.lexTailB .any ol.toArray N = true) (hE : edgesR .any ol.toArray (fun k => (List.replicate q KdR.q ++ ks).getD k .q) N = true) (hq : q ≤ N)
    (h : wpKeep P ol.toArray w (fun a' => wpR P ol.toArray w0 w (fun k => (List.replicate q KdR.q ++ ks).getD k .q) (fun a'' l' => ∀ W, Hid (Hp w0 W l') → wpList P ol.toArray Q (ol.drop N) a'' W) q ((ol.drop q).take (N - q)) a' l true) (ol.take q) a) : (Code.region id ol.toArray true).wp P Q a w := by
  have hok : (ovOf l).ok w w := ⟨Below.refl 0 w, fun _ _ _ => rfl, fun k b hu => by
    obtain ⟨x, hx, rfl, rfl⟩ := ovOf_mem_b H.out.nd hu
    exact (H.out.blk x hx).2⟩
  have hst : (ovOf l).still w := fun k b _ hu => by
    obtain ⟨x, hx, rfl, rfl⟩ := ovOf_mem_b H.out.nd hu
    exact (H.out.blk x hx).2
  refine wp_region_uniR N _ (ovOf l) ⟨w.heap.size, fun g b hu => ?_⟩ hok (fun _ _ _ h _ => absurd trivial h) hm hB hE ?_
  · obtain ⟨x, hx, rfl, _⟩ := ovOf_mem_b H.out.nd hu
    exact H.out.lt hx
  have hs : ol.take N = ol.take q ++ (ol.drop q).take (N - q) := by
    rw [← List.take_append_drop q (ol.take N), List.take_take, Nat.min_eq_left hq, List.drop_take]
  have hql : (ol.take q).length = q := by
    have hN : N < ol.length := by
      simp only [Region.lexTailB, Bool.and_eq_true, decide_eq_true_eq] at hB
      simpa using hB.1.1.1.2
    simp; omega
  rw [hs]
  refine wpUR_of (R := fun a'' l' => ∀ W, Hid (Hp w0 W l') → wpList P ol.toArray Q (ol.drop N) a'' W) H.out _ 0 a l true H.out.nd (fun x hx => (H.out.blk x hx).1) (fun _ => hst) (fun a'' l2 nd lo hR W hW => hR W (H.out.of_ov nd lo hW)) (wpR_pre H (ol.take q) 0 a (fun j hj => ?_) ?_)
  · rw [hql] at hj
    simp [List.getD_eq_getElem?_getD, List.getElem?_append, hj]
  · rw [hql, Nat.zero_add]
    exact h
end
end Go.Proofs.Ythepafendopfhaa