/- A region that draws its order and calls what changes one known block (a stream of numbers): the state is the list of the call's own blocks. Kinds: p (reads, calls, computes: over blocks that do not change), a (makes a block), s (changes a known block, and may yield a value). Printed by gen/unv.py. -/
import Derived.Test.YthepafendopfhaaHeapU
namespace Go.Proofs.Ythepafendopfhaa
open Go.RowKit
set_option linter.unusedVariables false

theorem wanted_some {o : Oper} {y : Nat → Option Bool} {i : Nat} {b : Bool} (h : o.guard = some (i, b)) (hy : y i = some b) : Region.wanted o y = true := by simp [Region.wanted, h, hy]
theorem wpK_skip {P : Program} {ops : Array Oper} {w : World} {R : Act → Prop} {a : Act} {o : Oper} {rest : List Oper} {i : Nat} {b : Bool} (h : o.guard = some (i, b)) (hy : yielded ops a.tmps i = some (!b)) (hK : wpKeep P ops w R rest (a.put o.dst undef)) : wpKeep P ops w R (o :: rest) a := by
  unfold wpKeep
  rw [if_neg (by simp [Region.wanted, h, hy])]
  exact hK
/-- What is known of the call's own blocks. -/
abbrev Ow := Nat → Option (TypeId × List Value)
def Ow.put (U : Ow) (g : Nat) (b : TypeId × List Value) : Ow := fun k => if k = g then some b else U k
theorem Ow.put_same (U : Ow) (g : Nat) (b : TypeId × List Value) : U.put g b g = some b := if_pos rfl
theorem Ow.put_ne (U : Ow) {g k : Nat} (b : TypeId × List Value) (h : k ≠ g) : U.put g b k = U k := if_neg h
theorem Ow.put_comm (U : Ow) {g h : Nat} (b c : TypeId × List Value) (hne : g ≠ h) : (U.put g b).put h c = (U.put h c).put g b := by
  funext k
  by_cases h1 : k = h
  · subst h1; rw [Ow.put_same, Ow.put_ne _ _ (Ne.symm hne), Ow.put_same]
  · rw [Ow.put_ne _ _ h1]
    by_cases h2 : k = g
    · subst h2; rw [Ow.put_same, Ow.put_same]
    · rw [Ow.put_ne _ _ h2, Ow.put_ne _ _ h2, Ow.put_ne _ _ h1]
def Ow.fin (U : Ow) : Prop := ∃ x, ∀ g b, U g = some b → g < x
theorem Ow.fin.put {U : Ow} (h : U.fin) (g : Nat) (b : TypeId × List Value) : (U.put g b).fin := by
  obtain ⟨x, hx⟩ := h
  refine ⟨max x (g + 1), fun k c hu => ?_⟩
  by_cases hk : k = g
  · omega
  · rw [Ow.put_ne _ _ hk] at hu
    have := hx _ _ hu
    omega
theorem Ow.fin.new {U : Ow} (h : U.fin) (n : Nat) : ∃ g, n ≤ g ∧ U g = none := by
  obtain ⟨x, hx⟩ := h
  refine ⟨max x n, Nat.le_max_right _ _, ?_⟩
  cases hu : U (max x n) with
  | none => rfl
  | some c => have := hx _ _ hu; omega
structure HU (w0 W : World) (U : Ow) : Prop where
  blk : ∀ k x, U k = some x → w0.heap.size ≤ k ∧ Blk W k x.1 x.2.toArray
  bel : Below w0.heap.size w0 W
  t0 : Tb w0
theorem HU.go {w0 W W' : World} {U : Ow} (h : HU w0 W U) (hb : Below W.heap.size W W') : HU w0 W' U :=
  ⟨fun k x hu => ⟨(h.blk k x hu).1, (h.blk k x hu).2.below hb (h.blk k x hu).2.lt⟩, h.bel.trans (hb.mono h.bel.size), h.t0⟩
theorem HU.new {w0 W : World} {U : Ow} (h : HU w0 W U) : U W.heap.size = none := by
  cases hu : U W.heap.size with
  | none => rfl
  | some b =>
    have := (h.blk _ _ hu).2.lt
    omega
theorem HU.alloc {w0 W : World} {U : Ow} (h : HU w0 W U) (t : TypeId) (cs : List Value) : HU w0 (W.alloc (.cells cs.toArray t)) (U.put W.heap.size (t, cs)) := by
  have hg := h.go ((Below.refl W.heap.size W).alloc (Nat.le_refl _) (.cells cs.toArray t))
  refine ⟨fun k x hu => ?_, hg.bel, h.t0⟩
  by_cases hk2 : k = W.heap.size
  · subst hk2
    rw [Ow.put_same] at hu
    injection hu with hu
    subst hu
    exact ⟨h.bel.size, Blk.new W t cs.toArray⟩
  · rw [Ow.put_ne _ _ hk2] at hu; exact hg.blk k x hu
def Ow.le (U0 U : Ow) : Prop := ∀ k x, U0 k = some x → U k = some x
theorem HU.less {w0 W : World} {U U0 : Ow} (h : HU w0 W U) (hl : U0.le U) : HU w0 W U0 := ⟨fun k x hu => h.blk k x (hl k x hu), h.bel, h.t0⟩
theorem Ow.le.put {U0 U : Ow} (h : U0.le U) {z : Nat} (b : TypeId × List Value) (hz : U0 z = none) : U0.le (U.put z b) := fun k x hu => by
  have : k ≠ z := fun e => by subst e; rw [hz] at hu; cases hu
  rw [Ow.put_ne _ _ this]
  exact h k x hu
theorem Ow.le.none {U0 U : Ow} (h : U0.le U) {z : Nat} (hz : U z = none) : U0 z = none := by
  cases hu : U0 z with
  | none => rfl
  | some x => rw [h z x hu] at hz; cases hz

def upH (P : Program) (w0 : World) (U : Ow) (W : World) (v : Value) : Result Next → Prop
  | .ok (.value u) W' => u = v ∧ HU w0 W' U
  | .ok .skip W' => v = undef ∧ HU w0 W' U
  | .ok (.enter f args) W' => W' = W ∧ Calls P f args W (fun e W'' => e = .returned v ∧ HU w0 W'' U)
  | _ => False

section
variable {P : Program} {ops : Array Oper} {md : Region.Mode} {w0 : World} {U0 : Ow}
def YieldsW (P : Program) (ops : Array Oper) (w0 : World) (U0 : Ow) (o : Oper) (v : Value) (a : Act) : Prop :=
  (Region.wanted o (yielded ops a.tmps) = true ∧ ∀ W, HU w0 W U0 → keepsAt P o a W v) ∨ (Region.wanted o (yielded ops a.tmps) = false ∧ v = undef)
def StoresW (P : Program) (ops : Array Oper) (w0 : World) (U0 : Ow) (o : Oper) (a : Act) (z : Nat) (b0 b1 : TypeId × List Value) (v : Value) : Prop :=
  Region.wanted o (yielded ops a.tmps) = true ∧ ∀ U W, HU w0 W U → U.fin → U0.le U → U z = some b0 → upH P w0 (U.put z b1) W v ((execOp a.eval o).run P W)
def EffW (P : Program) (ops : Array Oper) (w0 : World) (U0 : Ow) (o : Oper) (a : Act) (U : Ow) (K : Act → Ow → Prop) : Kd → Prop
  | .q => False
  | .p => ∃ v, YieldsW P ops w0 U0 o v a ∧ K (a.put o.dst v) U
  | .a => ∃ mk t cs, AllocsAt P ops o a mk (.cells cs.toArray t) ∧ ∀ g, w0.heap.size ≤ g → U g = none → K (a.put o.dst (mk g)) (U.put g (t, cs))
  | .s => ∃ z b0 b1 v, U0 z = none ∧ U z = some b0 ∧ StoresW P ops w0 U0 o a z b0 b1 v ∧ K (a.put o.dst v) (U.put z b1)
theorem EffW.mono {o : Oper} {a : Act} {U : Ow} {K K' : Act → Ow → Prop} {k : Kd} (hK : ∀ a U, K a U → K' a U) (h : EffW P ops w0 U0 o a U K k) : EffW P ops w0 U0 o a U K' k := by
  cases k with
  | q => exact h.elim
  | p => obtain ⟨v, h1, h2⟩ := h; exact ⟨v, h1, hK _ _ h2⟩
  | a => obtain ⟨mk, t, cs, h1, h2⟩ := h; exact ⟨mk, t, cs, h1, fun g h3 h4 => hK _ _ (h2 g h3 h4)⟩
  | s => obtain ⟨z, b0, b1, v, h0, h1, h2, h3⟩ := h; exact ⟨z, b0, b1, v, h0, h1, h2, hK _ _ h3⟩
section
variable {oi oj : Oper} {a : Act} {U : Ow} {K : Act → Ow → Prop}
theorem cells_inj {cs cs' : List Value} {t t' : TypeId} (h : Obj.cells cs.toArray t (0, 0) = Obj.cells cs'.toArray t' (0, 0)) : cs = cs' ∧ t = t' := by
  injection h with h1 h2
  exact ⟨by simpa using h1, h2⟩
/-- What may change places does. -/
theorem EffW.comm {ki kj : Kd} (hn : needE ki kj = false) (si : ∀ cs b, oi.op ≠ .select cs b) (sj : ∀ cs b, oj.op ≠ .select cs b) (hap : oi.apart ops oj = true) (hU : U.fin)
    (h : EffW P ops w0 U0 oi a U (fun a1 U1 => EffW P ops w0 U0 oj a1 U1 K kj) ki) : EffW P ops w0 U0 oj a U (fun a2 U2 => EffW P ops w0 U0 oi a2 U2 K ki) kj := by
  obtain ⟨h1, h2, h3⟩ := Oper.apart_spec hap
  have ej : ∀ u, execOp (a.put oi.dst u).eval oj = execOp a.eval oj := fun u => execOp_put oj sj a oi.dst u h1
  have wj : ∀ u, Region.wanted oj (yielded ops (a.put oi.dst u).tmps) = Region.wanted oj (yielded ops a.tmps) := fun u => wanted_put oj a oi.dst u h1
  have ei : ∀ u, execOp (a.put oj.dst u).eval oi = execOp a.eval oi := fun u => execOp_put oi si a oj.dst u h3
  have wi : ∀ u, Region.wanted oi (yielded ops (a.put oj.dst u).tmps) = Region.wanted oi (yielded ops a.tmps) := fun u => wanted_put oi a oj.dst u h3
  have pj : ∀ {v u}, YieldsW P ops w0 U0 oj v (a.put oi.dst u) → YieldsW P ops w0 U0 oj v a := fun hy => by unfold YieldsW keepsAt at *; rw [ej, wj] at hy; exact hy
  have aj : ∀ {mk b u}, AllocsAt P ops oj (a.put oi.dst u) mk b → AllocsAt P ops oj a mk b := fun hy => by unfold AllocsAt at *; rw [ej, wj] at hy; exact hy
  have sj' : ∀ {z b0 b1 v u}, StoresW P ops w0 U0 oj (a.put oi.dst u) z b0 b1 v → StoresW P ops w0 U0 oj a z b0 b1 v := fun hy => by unfold StoresW at *; rw [ej, wj] at hy; exact hy
  have pi' : ∀ {v u}, YieldsW P ops w0 U0 oi v a → YieldsW P ops w0 U0 oi v (a.put oj.dst u) := fun hy => by unfold YieldsW keepsAt at *; rw [ei, wi]; exact hy
  have ai : ∀ {mk b u}, AllocsAt P ops oi a mk b → AllocsAt P ops oi (a.put oj.dst u) mk b := fun hy => by unfold AllocsAt at *; rw [ei, wi]; exact hy
  have si' : ∀ {z b0 b1 v u}, StoresW P ops w0 U0 oi a z b0 b1 v → StoresW P ops w0 U0 oi (a.put oj.dst u) z b0 b1 v := fun hy => by unfold StoresW at *; rw [ei, wi]; exact hy
  have pc : ∀ v u, (a.put oj.dst u).put oi.dst v = (a.put oi.dst v).put oj.dst u := fun v u => (Act.put_comm a v u h2).symm
  cases ki <;> cases kj <;> simp only [needE] at hn
  all_goals first | exact absurd hn (by decide) | exact h.elim | skip
  all_goals first | (obtain ⟨_, _, h0⟩ := h; exact h0.elim) | skip
  · obtain ⟨v, hv, u, hu, hK⟩ := h
    exact ⟨u, pj hu, v, pi' hv, by rw [pc]; exact hK⟩
  · obtain ⟨v, hv, mk, t, cs, hA, hK⟩ := h
    exact ⟨mk, t, cs, aj hA, fun g hg hf => ⟨v, pi' hv, by rw [pc]; exact hK g hg hf⟩⟩
  · obtain ⟨v, hv, z, b0, b1, x, hZ, hz, hS, hK⟩ := h
    exact ⟨z, b0, b1, x, hZ, hz, sj' hS, v, pi' hv, by rw [pc]; exact hK⟩
  · obtain ⟨mk, t, cs, hA, H⟩ := h
    obtain ⟨g0, hg0, hf0⟩ := hU.new w0.heap.size
    obtain ⟨mk', t', cs', hA', _⟩ := H g0 hg0 hf0
    refine ⟨mk', t', cs', aj hA', fun g' hg' hf' => ⟨mk, t, cs, ai hA, fun g hg hf => ?_⟩⟩
    have hne : g ≠ g' := fun e => by subst e; rw [Ow.put_same] at hf; cases hf
    rw [Ow.put_ne _ _ hne] at hf
    obtain ⟨mk2, t2, cs2, hA2, hK⟩ := H g hg hf
    obtain ⟨rfl, hb⟩ := AllocsAt.uniq w0 (aj hA') (aj hA2)
    obtain ⟨rfl, rfl⟩ := cells_inj hb
    rw [pc, Ow.put_comm U _ _ (Ne.symm hne)]
    exact hK g' hg' (by rw [Ow.put_ne _ _ (Ne.symm hne)]; exact hf')
  · obtain ⟨z, b0, b1, x, hZ, hz, hS, u, hu, hK⟩ := h
    exact ⟨u, pj hu, z, b0, b1, x, hZ, hz, si' hS, by rw [pc]; exact hK⟩
  · obtain ⟨z, b0, b1, x, hZ, hz, hS, mk, t, cs, hA, hK⟩ := h
    refine ⟨mk, t, cs, aj hA, fun g hg hf => ?_⟩
    have hne : z ≠ g := fun e => by subst e; rw [hf] at hz; cases hz
    refine ⟨z, b0, b1, x, hZ, by rw [Ow.put_ne _ _ hne]; exact hz, si' hS, ?_⟩
    rw [pc, Ow.put_comm U _ _ (Ne.symm hne)]
    exact hK g hg (by rw [Ow.put_ne _ _ (Ne.symm hne)]; exact hf)
end
theorem EffW.fin {o : Oper} {a : Act} {U : Ow} {K : Act → Ow → Prop} {k : Kd} (hU : U.fin) (h : EffW P ops w0 U0 o a U K k) : EffW P ops w0 U0 o a U (fun a' U' => U'.fin ∧ K a' U') k := by
  cases k with
  | q => exact h.elim
  | p => obtain ⟨v, h1, h2⟩ := h; exact ⟨v, h1, hU, h2⟩
  | a => obtain ⟨mk, t, cs, h1, h2⟩ := h; exact ⟨mk, t, cs, h1, fun g h3 h4 => ⟨hU.put _ _, h2 g h3 h4⟩⟩
  | s => obtain ⟨z, b0, b1, v, h0, h1, h2, h3⟩ := h; exact ⟨z, b0, b1, v, h0, h1, h2, hU.put _ _, h3⟩

/-! Every order -/
def HeadW (P : Program) (md : Region.Mode) (ops : Array Oper) (w0 : World) (U0 : Ow) (kd : Nat → Kd) (N : Nat) (L : Array Bool → Act → Ow → Prop) : Nat → Array Bool → Act → Ow → Prop
  | 0, done, a, U => L done a U
  | f + 1, done, a, U => Region.ready md ops done ≠ [] ∧ ∀ i ∈ Region.ready md ops done, i < N ∧ ∃ o, ops[i]? = some o ∧ EffW P ops w0 U0 o a U (HeadW P md ops w0 U0 kd N L f (done.setIfInBounds i true)) (kd i)
variable {kd : Nat → Kd} {N : Nat}
theorem HeadW.any {L : Array Bool → Act → Ow → Prop} {g : Nat} {Q : Exit → Act → World → Prop} (hL : ∀ done a U W, HU w0 W U → L done a U → wpAny P md ops Q g done a W) (f : Nat) :
    ∀ (done : Array Bool) (a : Act) (U : Ow) (W : World), HU w0 W U → U.fin → U0.le U → HeadW P md ops w0 U0 kd N L f done a U → wpAny P md ops Q (f + g) done a W := by
  induction f with
  | zero => intro done a U W hw _ _ h; rw [Nat.zero_add]; exact hL _ _ _ _ hw h
  | succ f ih =>
    intro done a U W hw hF hI h
    rw [show f + 1 + g = (f + g) + 1 by omega]
    refine ⟨fun h0 => absurd h0 h.1, fun i hi => ?_⟩
    obtain ⟨_, o, ho, hE⟩ := h.2 i hi
    cases hkd : kd i with
    | q => rw [hkd] at hE; exact hE.elim
    | p =>
      rw [hkd] at hE
      obtain ⟨v, hy, hK⟩ := hE
      refine wpOp_of_qOp (C := fun w' => Below W.heap.size W w') (K := fun a' => a' = a.put o.dst v) (Below.refl _ _) (fun a' w' hw' e => by subst e; exact ih _ _ _ _ (hw.go hw') hF hI hK) ?_
      unfold qOp
      simp only [ho]
      rcases hy with ⟨h1, h2⟩ | ⟨h1, rfl⟩
      · rw [if_pos h1]
        exact ⟨v, fun w' hw' => quietUpon_mono (fun w'' h' => hw'.trans (h'.mono hw'.size)) (h2 w' ((hw.less hI).go hw')), rfl⟩
      · rw [if_neg (by rw [h1]; exact Bool.false_ne_true)]
    | a =>
      rw [hkd] at hE
      obtain ⟨mk, t, cs, ⟨h1, h2⟩, hK⟩ := hE
      unfold wpOp
      simp only [ho]
      rw [if_pos h1]
      refine .inl ?_
      unfold Oper.wp
      rw [h2, Oper.upon_value]
      exact ih _ _ _ _ (hw.alloc t cs) (hF.put _ _) (hI.put _ (hI.none hw.new)) (hK _ hw.bel.size hw.new)
    | s =>
      rw [hkd] at hE
      obtain ⟨z, b0, b1, v, hZ, hz0, ⟨h1, h2⟩, hK⟩ := hE
      have h3 := h2 U W hw hF hI hz0
      unfold wpOp
      simp only [ho]
      rw [if_pos h1]
      refine .inl ?_
      unfold Oper.wp
      generalize (execOp a.eval o).run P W = r at h3
      cases r with
      | ok n W' =>
        cases n <;> simp only [upH] at h3 <;> simp only [Oper.upon]
        case value u =>
          obtain ⟨e1, hz'⟩ := h3
          rw [e1]
          exact ih _ _ _ _ hz' (hF.put _ _) (hI.put b1 hZ) hK
        case skip =>
          obtain ⟨e1, hz'⟩ := h3
          rw [← e1]
          exact ih _ _ _ _ hz' (hF.put _ _) (hI.put b1 hZ) hK
        case enter f' args =>
          obtain ⟨e1, hc⟩ := h3
          rw [e1]
          exact hc.mono fun e w'' ⟨he, hz'⟩ => by subst he; exact ih _ _ _ _ hz' (hF.put _ _) (hI.put b1 hZ) hK
      | halt x W' => simp only [upH] at h3

theorem HeadW.first {L : Array Bool → Act → Ow → Prop} {i : Nat} {oi : Oper} (hi : ops[i]? = some oi) (hiN : i < N) (hsel : ∀ (j : Nat) (o : Oper) cs b, ops[j]? = some o → o.op ≠ .select cs b)
    (hE : edgesU md ops kd N = true) (hs : Region.sinkB md ops N = true) (hc : Region.chainB md ops N = true) (hn : N < ops.size) (hL : ∀ done a U, L done a U → ∀ j ∈ Region.ready md ops done, N ≤ j) (f : Nat) :
    ∀ (done : Array Bool) (a : Act) (U : Ow), HeadInv md ops N done → U.fin → (∀ j, j < i → done.getD j true = true) →
      (∀ j oj, ops[j]? = some oj → j ≠ i → done.getD j true = false → (∀ e ∈ oj.after, Region.binds md e = true → e.on ≠ i) → oi.apart ops oj = true) →
      i ∈ Region.ready md ops done → EffW P ops w0 U0 oi a U (HeadW P md ops w0 U0 kd N L f (done.setIfInBounds i true)) (kd i) → HeadW P md ops w0 U0 kd N L (f + 1) done a U := by
  have low : ∀ done, HeadInv md ops N done → i ∈ Region.ready md ops done → ∀ j ∈ Region.ready md ops done, j < N := fun done inv hr j hj => by
    rcases Nat.lt_or_ge j N with h | h
    · exact h
    · exact absurd hj (tail_waits hs hc hn inv _ i rfl hiN (mem_ready.1 hr).1 j h)
  have some_one : ∀ {o : Oper} {a : Act} {U : Ow} {K : Act → Ow → Prop} {k : Kd}, U.fin → EffW P ops w0 U0 o a U K k → ∃ a' U', K a' U' := by
    intro o a U K k hU h
    cases k with
    | q => exact h.elim
    | p => obtain ⟨v, _, h2⟩ := h; exact ⟨_, _, h2⟩
    | a => obtain ⟨mk, t, cs, _, h2⟩ := h; obtain ⟨g, h3, h4⟩ := hU.new w0.heap.size; exact ⟨_, _, h2 g h3 h4⟩
    | s => obtain ⟨z, b0, b1, v, _, _, _, h2⟩ := h; exact ⟨_, _, h2⟩
  induction f with
  | zero =>
    intro done a U inv hU _ _ hr H
    refine ⟨fun h => (by rw [h] at hr; cases hr), fun j hj => ⟨low done inv hr j hj, ?_⟩⟩
    rcases Nat.decEq j i with hji | hji
    · obtain ⟨a', U', hl⟩ := some_one hU H
      have := hL _ _ _ hl j (ready_mono hj hji)
      have := low done inv hr j hj
      omega
    · subst hji; exact ⟨oi, hi, H⟩
  | succ f ih =>
    intro done a U inv hU hd hfree hr H
    refine ⟨fun h => (by rw [h] at hr; cases hr), fun j hj => ⟨low done inv hr j hj, ?_⟩⟩
    rcases Nat.decEq j i with hji | hji
    · obtain ⟨hjun, oj, hoj, hall⟩ := mem_ready.1 hj
      have hun := (mem_ready.1 hr).1
      have hnot : ∀ e ∈ oj.after, Region.binds md e = true → e.on ≠ i := fun e he hb heq => by
        have h1 := hall e he hb
        rw [heq, getD_both hun] at h1
        cases h1
      have hap := hfree j oj hoj hji hjun hnot
      have back : ∀ k, (done.setIfInBounds j true).getD k true = false → done.getD k true = false := fun k hk => by
        rcases Nat.decEq j k with hjk | hjk
        · rw [getD_set_ne true hjk] at hk; exact hk
        · subst hjk; exact hjun
      have hij : i < j := by
        rcases Nat.lt_or_ge i j with h | h
        · exact h
        · have := hd j (by omega)
          rw [hjun] at this
          cases this
      have hjN := low done inv hr j hj
      have hne : needE (kd i) (kd j) = false := by
        cases hq : needE (kd i) (kd j) with
        | false => rfl
        | true => exact absurd hj (reach_waits inv (edgesU_spec hE hjN hij hq) hun)
      refine ⟨oj, hoj, ?_⟩
      have H2 : EffW P ops w0 U0 oi a U (fun a1 U1 => EffW P ops w0 U0 oj a1 U1 (HeadW P md ops w0 U0 kd N L f ((done.setIfInBounds j true).setIfInBounds i true)) (kd j)) (kd i) := H.mono fun a1 U1 h => by
        obtain ⟨_, oj', hoj', hh⟩ := h.2 j (ready_mono hj hji)
        obtain rfl : oj = oj' := Option.some.inj (hoj.symm.trans hoj')
        rw [Array.setIfInBounds_comm _ _ hji]
        exact hh
      have H3 := EffW.fin hU (EffW.comm hne (fun cs b => hsel i oi cs b hi) (fun cs b => hsel j oj cs b hoj) hap hU H2)
      refine H3.mono fun a2 U2 ⟨hf2, h2⟩ => ih _ a2 U2 (inv.set hj hjN) hf2 (fun k hk => by rw [getD_set_ne true (by omega)]; exact hd k hk) (fun k ok hk hki hun' hno => hfree k ok hk hki (back k hun') hno) (ready_mono hr (Ne.symm hji)) h2
    · subst hji; exact ⟨oi, hi, H⟩

/-- The walk in the text's order. -/
def wpW (P : Program) (ops : Array Oper) (w0 : World) (U0 : Ow) (kd : Nat → Kd) (R : Act → Ow → Prop) : Nat → List Oper → Act → Ow → Prop
  | _, [], a, U => R a U
  | k, o :: os, a, U => EffW P ops w0 U0 o a U (wpW P ops w0 U0 kd R (k + 1) os) (kd k)
theorem HeadW.lex {g : Nat} {R : Act → Ow → Prop} (hsel : Region.noSelect ops = true) (hE : edgesU md ops kd N = true) (hs : Region.sinkB md ops N = true) (hc : Region.chainB md ops N = true) (hn : N < ops.size) (l : List Oper) :
    ∀ (k : Nat) (done : Array Bool) (a : Act) (U : Ow), (∀ j, j < l.length → l[j]? = ops[k + j]?) → k + l.length = N → HeadInv md ops N done → (∀ j, j < k → done.getD j true = true) → U.fin →
      Region.lexHead md ops g l.length k done = true → wpW P ops w0 U0 kd R k l a U →
      HeadW P md ops w0 U0 kd N (fun done' a' U' => Region.seqB md ops g N done' = true ∧ R a' U') l.length done a U := by
  induction l with
  | nil =>
    intro k done a U _ hk _ _ _ hB h
    obtain rfl : k = N := by simpa using hk
    exact ⟨by simpa [Region.lexHead] using hB, h⟩
  | cons o l ih =>
    intro k done a U hl hk inv hd hU hB h
    have h0 : ops[k]? = some o := by simpa using (hl 0 (by simp)).symm
    simp only [List.length_cons] at hk hB ⊢
    rw [Region.lexHead, Bool.and_eq_true, Bool.and_eq_true] at hB
    obtain ⟨⟨hr, hf⟩, hB'⟩ := hB
    have hr' : k ∈ Region.ready md ops done := by simpa using hr
    have hd' : ∀ j, j < k + 1 → (done.setIfInBounds k true).getD j true = true := fun j hj => by
      rcases Nat.decEq k j with hkj | hkj
      · rw [getD_set_ne true hkj]; exact hd j (by omega)
      · subst hkj
        have hks : k < done.size := by rw [inv.size]; omega
        simp [hks]
    refine HeadW.first h0 (by omega) (Region.noSelect_spec hsel) hE hs hc hn (fun done' a' U' hL => seqB_ready hL.1) l.length done a U inv hU hd (Region.free_spec h0 hf) hr' ?_
    exact (EffW.fin hU h).mono fun a' U' ⟨hf', h'⟩ => ih (k + 1) _ a' U' (fun j hj => by have := hl (j + 1) (by simp; omega); simpa [Nat.add_assoc, Nat.add_comm 1 j] using this) (by omega) (inv.set hr' (by omega)) hd' hf' hB' h'

/-- **A drawn region**, walked in the text's order. -/
theorem wp_region_W {id : Nat} {Q : Exit → Act → World → Prop} {a : Act} {l : List Oper} (N : Nat) (kd : Nat → Kd) (U : Ow) {w : World} (hU : U.fin) (hok : HU w0 w U) (hI : U0.le U) (hm : P.follows .mixedOrders = true) (hB : Region.lexTailB .any l.toArray N = true) (hE : edgesU .any l.toArray kd N = true)
    (h : wpW P l.toArray w0 U0 kd (fun a' U' => ∀ W, HU w0 W U' → wpList P l.toArray Q (l.drop N) a' W) 0 (l.take N) a U) : (Code.region id l.toArray true).wp P Q a w := by
  simp only [Region.lexTailB, Bool.and_eq_true, decide_eq_true_eq] at hB
  obtain ⟨⟨⟨⟨hsel, hn⟩, hs⟩, hc⟩, hlex⟩ := hB
  have hn' : N < l.length := by simpa using hn
  have htl : (l.take N).length = N := by simp; omega
  have hdl : (l.drop N).length = l.toArray.size - N := by simp
  have start : HeadInv .any l.toArray N (Array.replicate l.toArray.size false) := by
    constructor
    · simp
    · intro j oj _ hl; rw [getD_replicate_false] at hl; cases hl
    · intro t _ ht; exact getD_in (by simpa using ht) (getD_replicate_false _ _)
  have H := HeadW.lex (P := P) (w0 := w0) (U0 := U0) (md := .any) (kd := kd) (N := N) (g := l.toArray.size - N) (R := fun a' U' => ∀ W, HU w0 W U' → wpList P l.toArray Q (l.drop N) a' W) hsel hE hs hc hn (l.take N) 0 _ a U
    (fun j hj => by rw [htl] at hj; simp [hj]) (by rw [htl]; omega) start (fun j hj => by omega) hU (by rw [htl]; exact hlex) h
  rw [htl] at H
  refine wp_region_any hm ?_
  have := HeadW.any (Q := Q) (g := l.toArray.size - N) (fun done a' U' W hW hL => by
    have := wpAny_of_seq (md := .any) (Q' := Q) (l.drop N) N done a' W (fun j => by simp [List.getElem?_drop]) (by rw [hdl]; exact hL.1) (hL.2 W hW)
    rwa [hdl] at this) _ _ _ _ _ (show HU w0 { w with drawn := w.drawn + 1 } U from ⟨hok.blk, hok.bel.drew, hok.t0⟩) hU hI H
  rwa [show N + (l.toArray.size - N) = l.toArray.size by omega] at this
end

/-! Over the list of blocks -/
def owOf : Ents → Ow
  | [] => fun _ => none
  | (g, t, cs) :: l => (owOf l).put g (t, cs)
theorem owOf_some {l : Ents} {k : Nat} {b : TypeId × List Value} (h : owOf l k = some b) : (k, b) ∈ l := by
  induction l with
  | nil => cases h
  | cons x l ih =>
    obtain ⟨g, t, cs⟩ := x
    unfold owOf Ow.put at h
    by_cases hk : k = g
    · rw [if_pos hk] at h
      injection h with h
      subst hk
      subst h
      exact .head _
    · rw [if_neg hk] at h
      exact .tail _ (ih h)
theorem owOf_mem {l : Ents} (hn : (l.map (·.1)).Nodup) {x : Nat × TypeId × List Value} (hx : x ∈ l) : owOf l x.1 = some x.2 := by
  induction l with
  | nil => cases hx
  | cons y l ih =>
    obtain ⟨g, t, cs⟩ := y
    rw [List.map_cons, List.nodup_cons] at hn
    unfold owOf Ow.put
    rcases List.mem_cons.1 hx with rfl | hx
    · rw [if_pos rfl]
    · rw [if_neg (fun e => hn.1 (by rw [← e]; exact List.mem_map.2 ⟨x, hx, rfl⟩))]
      exact ih hn.2 hx
theorem owOf_upd {l l' : Ents} {z : Nat} {T : TypeId} {cs ds : List Value} (h : Upd l z T cs ds l') (hn : (l.map (·.1)).Nodup) : owOf l' = (owOf l).put z (T, ds) := by
  induction h with
  | head =>
    rename_i z _ _ _ _
    funext k
    show Ow.put (owOf _) _ _ k = Ow.put (Ow.put (owOf _) _ _) _ _ k
    unfold Ow.put
    by_cases hk : k = z
    · rw [if_pos hk, if_pos hk]
    · rw [if_neg hk, if_neg hk, if_neg hk]
  | tail h ih =>
    rename_i z _ _ _ l1 l2 y
    obtain ⟨g, t, es⟩ := y
    rw [List.map_cons, List.nodup_cons] at hn
    have hne : z ≠ g := fun e => hn.1 (by rw [← e]; exact List.mem_map.2 ⟨_, h.mem, rfl⟩)
    show (owOf l2).put g _ = ((owOf l1).put g _).put z _
    rw [ih hn.2, Ow.put_comm _ _ _ hne]
theorem upd_of_mem {l : Ents} {z : Nat} {T : TypeId} {cs : List Value} (ds : List Value) (h : (z, T, cs) ∈ l) : ∃ l', Upd l z T cs ds l' := by
  induction l with
  | nil => cases h
  | cons x l ih =>
    rcases List.mem_cons.1 h with rfl | h
    · exact ⟨_, .head⟩
    · obtain ⟨l', hl⟩ := ih h
      exact ⟨_, .tail hl⟩
theorem Upd.keep {l l' : Ents} {z : Nat} {T : TypeId} {cs ds : List Value} (h : Upd l z T cs ds l') {x : Nat × TypeId × List Value} (hx : x ∈ l) (hne : x.1 ≠ z) : x ∈ l' := by
  induction h with
  | head =>
    rcases List.mem_cons.1 hx with rfl | hx
    · exact absurd rfl hne
    · exact .tail _ hx
  | tail h ih =>
    rcases List.mem_cons.1 hx with rfl | hx
    · exact .head _
    · exact .tail _ (ih hx hne)
theorem ents_of (U : Ow) : ∀ n, (∀ g b, U g = some b → g < n) → ∃ l : Ents, (l.map (·.1)).Nodup ∧ owOf l = U ∧ ∀ x ∈ l, x.1 < n := by
  intro n
  induction n generalizing U with
  | zero => intro h; exact ⟨[], List.Pairwise.nil, by funext k; cases hu : U k with | none => rfl | some b => exact absurd (h k b hu) (by omega), fun x hx => by cases hx⟩
  | succ n ih =>
    intro h
    obtain ⟨l, h1, h2, h3⟩ := ih (fun k => if k = n then none else U k) (fun g b hu => by
      by_cases hg : g = n
      · simp [hg] at hu
      · simp only [if_neg hg] at hu
        have := h g b hu
        omega)
    cases hu : U n with
    | none =>
      refine ⟨l, h1, ?_, fun x hx => by have := h3 x hx; omega⟩
      rw [h2]
      funext k
      by_cases hk : k = n
      · subst hk; simp [hu]
      · simp [hk]
    | some b =>
      refine ⟨(n, b) :: l, ?_, ?_, fun x hx => ?_⟩
      · rw [List.map_cons, List.nodup_cons]
        refine ⟨fun hm => ?_, h1⟩
        obtain ⟨x, hx, he⟩ := List.mem_map.1 hm
        have h4 := h3 x hx
        have h5 : x.1 = n := he
        omega
      · obtain ⟨t, cs⟩ := b
        show (owOf l).put n (t, cs) = U
        rw [h2]
        funext k
        unfold Ow.put
        by_cases hk : k = n
        · subst hk; simp [hu]
        · simp [hk]
      · rcases List.mem_cons.1 hx with rfl | hx
        · exact Nat.lt_succ_self n
        · have := h3 x hx; omega
theorem Hp.hu {w0 W : World} {l : Ents} (h : Hp w0 W l) : HU w0 W (owOf l) := ⟨fun k x hu => h.blk _ (owOf_some hu), h.bel, h.t0⟩
theorem HU.hp {w0 W : World} {l : Ents} (h : HU w0 W (owOf l)) (hn : (l.map (·.1)).Nodup) : Hp w0 W l := ⟨fun x hx => h.blk _ _ (owOf_mem hn hx), hn, h.bel, h.t0⟩

section
variable {P : Program} {ops : Array Oper} {rest : List Oper} {o : Oper} {a : Act} {w0 w : World} {l l' l0 : Ents} {Q : Exit → Act → World → Prop} {kd : Nat → Kd} {k : Nat} {R : Act → Ents → Prop}
def YieldsP0 (P : Program) (ops : Array Oper) (w0 : World) (l0 : Ents) (o : Oper) (v : Value) (a : Act) : Prop :=
  (Region.wanted o (yielded ops a.tmps) = true ∧ ∀ W, Hid (Hp w0 W l0) → keepsAt P o a W v) ∨ (Region.wanted o (yielded ops a.tmps) = false ∧ v = undef)
def upP (P : Program) (w0 : World) (m : Ents) (W : World) (v : Value) : Result Next → Prop
  | .ok (.value u) W' => u = v ∧ Hp w0 W' m
  | .ok .skip W' => v = undef ∧ Hp w0 W' m
  | .ok (.enter f args) W' => W' = W ∧ Calls P f args W (fun e W'' => e = .returned v ∧ Hp w0 W'' m)
  | _ => False
def StoresP0 (P : Program) (ops : Array Oper) (w0 : World) (l0 : Ents) (o : Oper) (a : Act) (z : Nat) (T : TypeId) (cs ds : List Value) (v : Value) : Prop :=
  Region.wanted o (yielded ops a.tmps) = true ∧ ∀ m m' W, Hid (Hp w0 W m) → (∀ x ∈ l0, x ∈ m) → Upd m z T cs ds m' → upP P w0 m' W v ((execOp a.eval o).run P W)
def wpV (P : Program) (ops : Array Oper) (w0 : World) (l0 : Ents) (kd : Nat → Kd) (R : Act → Ents → Prop) : Nat → List Oper → Act → Ents → Prop
  | _, [], a, l => R a l
  | k, o :: os, a, l =>
    (kd k = .p ∧ ∃ v, YieldsP0 P ops w0 l0 o v a ∧ wpV P ops w0 l0 kd R (k + 1) os (a.put o.dst v) l) ∨
    (kd k = .a ∧ ∃ mk t cs, AllocsAt P ops o a mk (.cells cs.toArray t (0, 0)) ∧ ∀ g, wpV P ops w0 l0 kd R (k + 1) os (a.put o.dst (mk g)) ((g, t, cs) :: l)) ∨
    (kd k = .s ∧ ∃ z T cs ds l' v, (∀ x ∈ l0, x.1 ≠ z) ∧ Upd l z T cs ds l' ∧ StoresP0 P ops w0 l0 o a z T cs ds v ∧ wpV P ops w0 l0 kd R (k + 1) os (a.put o.dst v) l')
theorem wpV_nil (h : R a l) : wpV P ops w0 l0 kd R k [] a l := h
/-- Pure. -/
theorem wpV_P {v : Value} (hp : kd k = .p) (hg : Region.wanted o (yielded ops a.tmps) = true) (hr : ∀ W, (execOp a.eval o).run P W = .ok (.value v) W) (h : wpV P ops w0 l0 kd R (k + 1) rest (a.put o.dst v) l) : wpV P ops w0 l0 kd R k (o :: rest) a l :=
  .inl ⟨hp, v, .inl ⟨hg, fun W _ => by unfold keepsAt; rw [hr W]; exact ⟨rfl, rfl⟩⟩, h⟩
/-- A call that leaves all that was there. -/
theorem wpV_C {v : Value} (hp : kd k = .p) (hg : Region.wanted o (yielded ops a.tmps) = true) (hr : ∀ W, Hid (Hp w0 W l0) → keepsAt P o a W v) (h : wpV P ops w0 l0 kd R (k + 1) rest (a.put o.dst v) l) : wpV P ops w0 l0 kd R k (o :: rest) a l :=
  .inl ⟨hp, v, .inl ⟨hg, hr⟩, h⟩
theorem wpV_load {t T : TypeId} {p : Operand} {b j n : Nat} {cs ds : List Value} (hk : kd k = .p) (ho : o.op = .load t p) (hg : Region.wanted o (yielded ops a.tmps) = true) (hT : RowT P t n) (hp : a.eval p = .pointer (some ⟨b, j, none⟩))
    (hm : (b, T, cs) ∈ l0) (hx : (cs.drop j).take n = ds) (hl : ds.length = n) (h : wpV P ops w0 l0 kd R (k + 1) rest (a.put o.dst (.agg ds.toArray)) l) : wpV P ops w0 l0 kd R k (o :: rest) a l :=
  wpV_C hk hg (fun W hW => by
    have hr := run_loadB (P := P) (t := t) (k := j) (hW.out.get hm) hT (by simpa using hx) hl
    unfold keepsAt execOp
    simp only [ho, hp, hr, Sem.run_bind, Sem.run_pure, Result.andThen_ok]
    exact ⟨rfl, rfl⟩) h
theorem wpV_load1 {t T : TypeId} {p : Operand} {b j : Nat} {cs : List Value} {v : Value} (hk : kd k = .p) (ho : o.op = .load t p) (hg : Region.wanted o (yielded ops a.tmps) = true) (hT : ∃ d, P.underlying t = some d ∧ d.isRow = false) (hp : a.eval p = .pointer (some ⟨b, j, none⟩))
    (hm : (b, T, cs) ∈ l0) (hx : cs[j]? = some v) (h : wpV P ops w0 l0 kd R (k + 1) rest (a.put o.dst v) l) : wpV P ops w0 l0 kd R k (o :: rest) a l :=
  wpV_C hk hg (fun W hW => by
    have hb := (hW.out.get hm).out
    have hr := run_loadC (P := P) (t := t) (k := j) hT hb (by simpa using hx)
    unfold keepsAt execOp
    simp only [ho, hp, hr, Sem.run_bind, Sem.run_pure, Result.andThen_ok]
    exact ⟨rfl, rfl⟩) h
theorem wpV_A {t : TypeId} {cs : List Value} (hp : kd k = .a) (hA : Allocs P ops o (.cells cs.toArray t)) (h : ∀ g, wpV P ops w0 l0 kd R (k + 1) rest (a.put o.dst (.pointer (some ⟨g, 0, none⟩))) ((g, t, cs) :: l)) : wpV P ops w0 l0 kd R k (o :: rest) a l :=
  .inr (.inl ⟨hp, fun g => .pointer (some ⟨g, 0, none⟩), t, cs, ⟨(hA a w0).1, fun W => (hA a W).2⟩, h⟩)
/-- A call that changes a known block. -/
theorem wpV_S {z : Nat} {T : TypeId} {cs : List Value} (ds : List Value) {v : Value} (hp : kd k = .s) (hg : Region.wanted o (yielded ops a.tmps) = true) (hz : ∀ x ∈ l0, x.1 ≠ z) (hu : Upd l z T cs ds l')
    (hr : ∀ m m' W, Hid (Hp w0 W m) → (∀ x ∈ l0, x ∈ m) → Upd m z T cs ds m' → upP P w0 m' W v ((execOp a.eval o).run P W)) (h : wpV P ops w0 l0 kd R (k + 1) rest (a.put o.dst v) l') : wpV P ops w0 l0 kd R k (o :: rest) a l :=
  .inr (.inr ⟨hp, z, T, cs, ds, l', v, hz, hu, ⟨hg, hr⟩, h⟩)
theorem wpW_of (n0 : (l0.map (·.1)).Nodup) {R' : Act → Ow → Prop} (os : List Oper) : ∀ (k : Nat) (a : Act) (l1 : Ents), (l1.map (·.1)).Nodup → (∀ x ∈ l0, x ∈ l1) →
    (∀ a' l2, (l2.map (·.1)).Nodup → R a' l2 → R' a' (owOf l2)) → wpV P ops w0 l0 kd R k os a l1 → wpW P ops w0 (owOf l0) kd R' k os a (owOf l1) := by
  induction os with
  | nil => intro k a l1 nd _ hR h; exact hR a l1 nd h
  | cons o os ih =>
    intro k a l1 nd sub hR h
    show EffW P ops w0 (owOf l0) o a (owOf l1) (wpW P ops w0 (owOf l0) kd R' (k + 1) os) (kd k)
    rcases h with ⟨hp, v, hy, hK⟩ | ⟨hp, mk, t, cs, hA, hK⟩ | ⟨hp, z, T, cs, ds, l2, v, hz, hu, hS, hK⟩
    · rw [hp]
      refine ⟨v, ?_, ih _ _ _ nd sub hR hK⟩
      rcases hy with ⟨y1, y2⟩ | y
      · exact .inl ⟨y1, fun W hW => y2 W (Lib.hid (hW.hp n0))⟩
      · exact .inr y
    · rw [hp]
      refine ⟨mk, t, cs, hA, fun g hg hf => ih _ _ ((g, t, cs) :: l1) ?_ (fun x hx => .tail _ (sub x hx)) hR (hK g)⟩
      rw [List.map_cons, List.nodup_cons]
      refine ⟨fun hm => ?_, nd⟩
      obtain ⟨x, hx, he⟩ := List.mem_map.1 hm
      have := owOf_mem nd hx
      rw [he, hf] at this
      cases this
    · rw [hp]
      have e := owOf_upd hu nd
      have hz0 : owOf l0 z = none := by
        cases hq : owOf l0 z with
        | none => rfl
        | some b => exact absurd rfl (hz _ (owOf_some hq))
      refine ⟨z, _, (T, ds), v, hz0, owOf_mem nd hu.mem, ⟨hS.1, fun U W hW hF hI hUz => ?_⟩, ?_⟩
      · obtain ⟨n, hn⟩ := hF
        obtain ⟨m, m1, m2, _⟩ := ents_of U n hn
        subst m2
        obtain ⟨m', hm'⟩ := upd_of_mem ds (owOf_some hUz)
        have h3 := hS.2 m m' W (Lib.hid (hW.hp m1)) (fun x hx => owOf_some (hI _ _ (owOf_mem n0 hx))) hm'
        have e' := owOf_upd hm' m1
        rw [← e']
        generalize (execOp a.eval o).run P W = r at h3
        cases r with
        | ok q W' =>
          cases q <;> simp only [upP] at h3 <;> simp only [upH]
          case value u => exact ⟨h3.1, h3.2.hu⟩
          case skip => exact ⟨h3.1, h3.2.hu⟩
          case enter f' args => exact ⟨h3.1, h3.2.mono fun e' w'' ⟨he, hz'⟩ => ⟨he, hz'.hu⟩⟩
        | halt x W' => simp only [upP] at h3
      · show wpW P ops w0 (owOf l0) kd R' (k + 1) os (a.put o.dst v) ((owOf l1).put z (T, ds))
        rw [← e]
        exact ih _ _ l2 (by rw [hu.fst]; exact nd) (fun x hx => hu.keep (sub x hx) (hz x hx)) hR hK
/-- **A drawn region with calls that change a known block**: N operations in the text's order, then the rest in its forced order. -/
theorem wp_region_V {id : Nat} {ol : List Oper} (N : Nat) (ks : List Kd) (l0 : Ents) (H : Hid (Hp w0 w l)) (sub : ∀ x ∈ l0, x ∈ l) (n0 : (l0.map (·.1)).Nodup) (hm : P.follows .mixedOrders = true) (hB : Region.lexTailB .any ol.toArray N = true) (hE : edgesU .any ol.toArray (fun k => ks.getD k .p) N = true)
    (h : wpV P ol.toArray w0 l0 (fun k => ks.getD k .p) (fun a'' l' => ∀ W, Hid (Hp w0 W l') → wpList P ol.toArray Q (ol.drop N) a'' W) 0 (ol.take N) a l) : (Code.region id ol.toArray true).wp P Q a w :=
  wp_region_W (U0 := owOf l0) N _ (owOf l) ⟨w.heap.size, fun g b hu => H.out.lt (owOf_some hu)⟩ H.out.hu (fun k x hu => owOf_mem H.out.nd (sub _ (owOf_some hu))) hm hB hE
    (wpW_of n0 _ 0 a l H.out.nd sub (fun a'' l2 nd hR W hW => hR W (Lib.hid (hW.hp nd))) h)
end
end Go.Proofs.Ythepafendopfhaa
