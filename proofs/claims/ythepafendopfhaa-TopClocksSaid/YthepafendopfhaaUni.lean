/- A region that draws its order, whatever it holds: operations that read or call (q), that are pure (p), that make a block (a), that store into a known block (s). Where the edges, directly or through others, keep apart what must not change places, one walk of the text's order serves every order. No program. -/
import Derived.Test.YthepafendopfhaaExt4
namespace Go.Proofs.Ythepafendopfhaa
open Go.RowKit
set_option linter.unusedVariables false

/-- What is known of blocks that the region makes or changes. -/
abbrev Ov := Nat → Option Obj
def Ov.put (U : Ov) (g : Nat) (b : Obj) : Ov := fun k => if k = g then some b else U k
theorem Ov.put_same (U : Ov) (g : Nat) (b : Obj) : U.put g b g = some b := if_pos rfl
theorem Ov.put_ne (U : Ov) {g k : Nat} (b : Obj) (h : k ≠ g) : U.put g b k = U k := if_neg h
theorem Ov.put_comm (U : Ov) {g h : Nat} (b c : Obj) (hne : g ≠ h) : (U.put g b).put h c = (U.put h c).put g b := by
  funext k
  by_cases h1 : k = h
  · subst h1; rw [Ov.put_same, Ov.put_ne _ _ (Ne.symm hne), Ov.put_same]
  · rw [Ov.put_ne _ _ h1]
    by_cases h2 : k = g
    · subst h2; rw [Ov.put_same, Ov.put_same]
    · rw [Ov.put_ne _ _ h2, Ov.put_ne _ _ h2, Ov.put_ne _ _ h1]
def Ov.fin (U : Ov) : Prop := ∃ x, ∀ g b, U g = some b → g < x
theorem Ov.fin.put {U : Ov} (h : U.fin) (g : Nat) (b : Obj) : (U.put g b).fin := by
  obtain ⟨x, hx⟩ := h
  refine ⟨max x (g + 1), fun k c hu => ?_⟩
  by_cases hk : k = g
  · omega
  · rw [Ov.put_ne _ _ hk] at hu
    have := hx _ _ hu
    omega
theorem Ov.fin.new {U : Ov} (h : U.fin) (n : Nat) : ∃ g, n ≤ g ∧ U g = none := by
  obtain ⟨x, hx⟩ := h
  refine ⟨max x n, Nat.le_max_right _ _, ?_⟩
  cases hu : U (max x n) with
  | none => rfl
  | some c => have := hx _ _ hu; omega
structure Ov.ok (U : Ov) (w W : World) : Prop where
  all : Below 0 w W
  keep : ∀ k, k < w.heap.size → U k = none → W.heap[k]? = w.heap[k]?
  has : ∀ k b, U k = some b → W.heap[k]? = some b
def Ov.still (U : Ov) (w : World) : Prop := ∀ k b, k < w.heap.size → U k = some b → w.heap[k]? = some b
theorem Ov.ok.below {U : Ov} {w W : World} (h : U.ok w W) (hs : U.still w) : Below w.heap.size w W :=
  ⟨h.all.os, h.all.tape, h.all.output, h.all.size, fun k hk => by
    cases hu : U k with
    | none => exact h.keep k hk hu
    | some b => exact (h.has k b hu).trans (hs k b hk hu).symm⟩
theorem Ov.ok.go {U : Ov} {w W W' : World} (h : U.ok w W) (hb : Below W.heap.size W W') : U.ok w W' :=
  ⟨h.all.trans (hb.mono (Nat.zero_le _)), fun k hk hu => (hb.block k (Nat.lt_of_lt_of_le hk h.all.size)).trans (h.keep k hk hu), fun k b hu => by
    have := h.has k b hu
    rw [hb.block k (Array.getElem?_eq_some_iff.1 this).1]
    exact this⟩
theorem Ov.ok.new {U : Ov} {w W : World} (h : U.ok w W) : U W.heap.size = none := by
  cases hu : U W.heap.size with
  | none => rfl
  | some b =>
    have := (Array.getElem?_eq_some_iff.1 (h.has _ b hu)).1
    omega
theorem Ov.ok.alloc {U : Ov} {w W : World} (h : U.ok w W) (b : Obj) : (U.put W.heap.size b).ok w (W.alloc b) := by
  have hg := h.go ((Below.refl W.heap.size W).alloc (Nat.le_refl _) b)
  refine ⟨hg.all, fun k hk hu => ?_, fun k c hu => ?_⟩
  · by_cases hk2 : k = W.heap.size
    · subst hk2; rw [Ov.put_same] at hu; cases hu
    · rw [Ov.put_ne _ _ hk2] at hu; exact hg.keep k hk hu
  · by_cases hk2 : k = W.heap.size
    · subst hk2
      rw [Ov.put_same] at hu
      injection hu with hu
      subst hu
      exact heap_alloc_new W b
    · rw [Ov.put_ne _ _ hk2] at hu; exact hg.has k c hu
theorem Ov.ok.store {U : Ov} {w W W' : World} {z : Nat} {b1 : Obj} (h : U.ok w W) (hz : W'.heap[z]? = some b1) (hk : ∀ k, k < W.heap.size → k ≠ z → W'.heap[k]? = W.heap[k]?) (hB : Below 0 W W') : (U.put z b1).ok w W' := by
  refine ⟨h.all.trans hB, fun k hk' hu => ?_, fun k c hu => ?_⟩
  · by_cases hk2 : k = z
    · subst hk2; rw [Ov.put_same] at hu; cases hu
    · rw [Ov.put_ne _ _ hk2] at hu; exact (hk k (Nat.lt_of_lt_of_le hk' h.all.size) hk2).trans (h.keep k hk' hu)
  · by_cases hk2 : k = z
    · subst hk2
      rw [Ov.put_same] at hu
      injection hu with hu
      subst hu
      exact hz
    · rw [Ov.put_ne _ _ hk2] at hu; exact (hk k (Array.getElem?_eq_some_iff.1 (h.has k c hu)).1 hk2).trans (h.has k c hu)
theorem Ov.ok.less {U : Ov} {w W : World} {g : Nat} {b : Obj} (h : (U.put g b).ok w W) (hg : w.heap.size ≤ g) (hu : U g = none) : U.ok w W :=
  ⟨h.all, fun k hk hk2 => h.keep k hk (by rw [Ov.put_ne _ _ (by omega)]; exact hk2), fun k c hk => h.has k c (by rw [Ov.put_ne _ _ (fun e => by subst e; rw [hu] at hk; cases hk)]; exact hk)⟩

/-- A world behind w in which, of what lay in w, only blocks of Z may have changed. -/
def St (Z : Nat → Prop) (w W : World) : Prop := Below 0 w W ∧ ∀ k, k < w.heap.size → ¬ Z k → W.heap[k]? = w.heap[k]?
/-- What is known of old blocks outside Z is what lay there. -/
def Ov.inv (U : Ov) (Z : Nat → Prop) (w : World) : Prop := ∀ k b, k < w.heap.size → ¬ Z k → U k = some b → w.heap[k]? = some b
theorem Ov.ok.st {U : Ov} {Z : Nat → Prop} {w W : World} (h : U.ok w W) (hi : U.inv Z w) : St Z w W :=
  ⟨h.all, fun k hk hz => by
    cases hu : U k with
    | none => exact h.keep k hk hu
    | some b => exact (h.has k b hu).trans (hi k b hk hz hu).symm⟩
theorem Ov.inv.put {U : Ov} {Z : Nat → Prop} {w : World} (h : U.inv Z w) {z : Nat} (b : Obj) (hz : Z z ∨ w.heap.size ≤ z) : (U.put z b).inv Z w := fun k c hk hn hu => by
  by_cases hk2 : k = z
  · subst hk2
    rcases hz with hz | hz
    · exact absurd hz hn
    · omega
  · rw [Ov.put_ne _ _ hk2] at hu; exact h k c hk hn hu
theorem St.go {Z : Nat → Prop} {w W W' : World} (h : St Z w W) (hb : Below W.heap.size W W') : St Z w W' :=
  ⟨h.1.trans (hb.mono (Nat.zero_le _)), fun k hk hz => (hb.block k (Nat.lt_of_lt_of_le hk h.1.size)).trans (h.2 k hk hz)⟩
/-- Block z becomes b1; what else lay there stays. -/
def Post (z : Nat) (b1 : Obj) (W W' : World) : Prop := W'.heap[z]? = some b1 ∧ (∀ k, k < W.heap.size → k ≠ z → W'.heap[k]? = W.heap[k]?) ∧ Below 0 W W'
def upZ (P : Program) (z : Nat) (b1 : Obj) (W : World) (v : Value) : Result Next → Prop
  | .ok (.value u) W' => u = v ∧ Post z b1 W W'
  | .ok .skip W' => v = undef ∧ Post z b1 W W'
  | .ok (.enter f args) W' => W' = W ∧ Calls P f args W (fun e W'' => e = .returned v ∧ Post z b1 W W'')
  | _ => False

section
variable {P : Program} {ops : Array Oper} {md : Region.Mode} {w : World} {Z : Nat → Prop}

/-! What one operation may do -/
def YieldsU (P : Program) (ops : Array Oper) (w : World) (U : Ov) (o : Oper) (v : Value) (a : Act) : Prop :=
  (Region.wanted o (yielded ops a.tmps) = true ∧ ∀ W, U.ok w W → keepsAt P o a W v) ∨ (Region.wanted o (yielded ops a.tmps) = false ∧ v = undef)
def YieldsP (P : Program) (ops : Array Oper) (Z : Nat → Prop) (w : World) (o : Oper) (v : Value) (a : Act) : Prop :=
  (Region.wanted o (yielded ops a.tmps) = true ∧ ∀ W, St Z w W → keepsAt P o a W v) ∨ (Region.wanted o (yielded ops a.tmps) = false ∧ v = undef)
def AllocsAt (P : Program) (ops : Array Oper) (o : Oper) (a : Act) (mk : Nat → Value) (b : Obj) : Prop :=
  Region.wanted o (yielded ops a.tmps) = true ∧ ∀ W, (execOp a.eval o).run P W = .ok (.value (mk W.heap.size)) (W.alloc b)
/-- The operation (a store, a call) makes b1 of the block z, that was b0, and yields v. -/
def StoresV (P : Program) (ops : Array Oper) (Z : Nat → Prop) (w : World) (o : Oper) (a : Act) (z : Nat) (b0 b1 : Obj) (v : Value) : Prop :=
  Region.wanted o (yielded ops a.tmps) = true ∧ ∀ W, St Z w W → W.heap[z]? = some b0 → upZ P z b1 W v ((execOp a.eval o).run P W)
theorem StoresZ.v {o : Oper} {a : Act} {z : Nat} {b0 b1 : Obj} (h : StoresZ P ops o a z b0 b1) : StoresV P ops Z w o a z b0 b1 undef :=
  ⟨h.1, fun W _ hW => by
    obtain ⟨W', hr, h1, h2, h3⟩ := h.2 W hW
    rw [hr]
    exact ⟨rfl, h1, fun k _ hk => h2 k hk, h3⟩⟩
inductive Kd | q | p | a | s
def Eff (P : Program) (ops : Array Oper) (Z : Nat → Prop) (w : World) (o : Oper) (a : Act) (U : Ov) (K : Act → Ov → Prop) : Kd → Prop
  | .q => ∃ v, YieldsU P ops w U o v a ∧ K (a.put o.dst v) U
  | .p => ∃ v, YieldsP P ops Z w o v a ∧ K (a.put o.dst v) U
  | .a => ∃ mk b, AllocsAt P ops o a mk b ∧ ∀ g, w.heap.size ≤ g → U g = none → K (a.put o.dst (mk g)) (U.put g b)
  | .s => ∃ z b0 b1 v, (Z z ∨ w.heap.size ≤ z) ∧ U z = some b0 ∧ StoresV P ops Z w o a z b0 b1 v ∧ K (a.put o.dst v) (U.put z b1)
/-- These two must not change places: the later one has to wait. -/
def needE : Kd → Kd → Bool
  | .q, .s => true
  | .s, .q => true
  | .s, .s => true
  | .a, .q => true
  | .a, .p => true
  | .a, .s => true
  | _, _ => false
theorem Eff.mono {o : Oper} {a : Act} {U : Ov} {K K' : Act → Ov → Prop} {k : Kd} (hK : ∀ a U, K a U → K' a U) (h : Eff P ops Z w o a U K k) : Eff P ops Z w o a U K' k := by
  cases k with
  | q => obtain ⟨v, h1, h2⟩ := h; exact ⟨v, h1, hK _ _ h2⟩
  | p => obtain ⟨v, h1, h2⟩ := h; exact ⟨v, h1, hK _ _ h2⟩
  | a => obtain ⟨mk, b, h1, h2⟩ := h; exact ⟨mk, b, h1, fun g h3 h4 => hK _ _ (h2 g h3 h4)⟩
  | s => obtain ⟨z, b0, b1, v, h0, h1, h2, h3⟩ := h; exact ⟨z, b0, b1, v, h0, h1, h2, hK _ _ h3⟩
theorem AllocsAt.uniq {o : Oper} {a : Act} {mk mk' : Nat → Value} {b b' : Obj} (w : World) (h : AllocsAt P ops o a mk b) (h' : AllocsAt P ops o a mk' b') : mk = mk' ∧ b = b' := by
  have key : ∀ W : World, mk W.heap.size = mk' W.heap.size ∧ W.alloc b = W.alloc b' := fun W => by
    have e := (h.2 W).symm.trans (h'.2 W)
    injection e with e1 e2
    injection e1 with e1
    exact ⟨e1, e2⟩
  constructor
  · funext g
    have := (key { w with heap := Array.replicate g (.cells #[] 0) }).1
    simpa using this
  · have h3 := heap_alloc_new w b
    rw [(key w).2, heap_alloc_new w b'] at h3
    injection h3 with h3
    exact h3.symm
section
variable {oi oj : Oper} {a : Act} {U : Ov} {K : Act → Ov → Prop}
/-- What may change places does. -/
theorem Eff.comm {ki kj : Kd} (hn : needE ki kj = false) (si : ∀ cs b, oi.op ≠ .select cs b) (sj : ∀ cs b, oj.op ≠ .select cs b) (hap : oi.apart ops oj = true) (hU : U.fin)
    (h : Eff P ops Z w oi a U (fun a1 U1 => Eff P ops Z w oj a1 U1 K kj) ki) : Eff P ops Z w oj a U (fun a2 U2 => Eff P ops Z w oi a2 U2 K ki) kj := by
  obtain ⟨h1, h2, h3⟩ := Oper.apart_spec hap
  have ej : ∀ u, execOp (a.put oi.dst u).eval oj = execOp a.eval oj := fun u => execOp_put oj sj a oi.dst u h1
  have wj : ∀ u, Region.wanted oj (yielded ops (a.put oi.dst u).tmps) = Region.wanted oj (yielded ops a.tmps) := fun u => wanted_put oj a oi.dst u h1
  have ei : ∀ u, execOp (a.put oj.dst u).eval oi = execOp a.eval oi := fun u => execOp_put oi si a oj.dst u h3
  have wi : ∀ u, Region.wanted oi (yielded ops (a.put oj.dst u).tmps) = Region.wanted oi (yielded ops a.tmps) := fun u => wanted_put oi a oj.dst u h3
  have qj : ∀ {V : Ov} {v u}, YieldsU P ops w V oj v (a.put oi.dst u) → YieldsU P ops w V oj v a := fun hy => by unfold YieldsU keepsAt at *; rw [ej, wj] at hy; exact hy
  have pj : ∀ {v u}, YieldsP P ops Z w oj v (a.put oi.dst u) → YieldsP P ops Z w oj v a := fun hy => by unfold YieldsP keepsAt at *; rw [ej, wj] at hy; exact hy
  have aj : ∀ {mk b u}, AllocsAt P ops oj (a.put oi.dst u) mk b → AllocsAt P ops oj a mk b := fun hy => by unfold AllocsAt at *; rw [ej, wj] at hy; exact hy
  have sj' : ∀ {z b0 b1 v u}, StoresV P ops Z w oj (a.put oi.dst u) z b0 b1 v → StoresV P ops Z w oj a z b0 b1 v := fun hy => by unfold StoresV at *; rw [ej, wj] at hy; exact hy
  have qi : ∀ {V : Ov} {v u}, YieldsU P ops w V oi v a → YieldsU P ops w V oi v (a.put oj.dst u) := fun hy => by unfold YieldsU keepsAt at *; rw [ei, wi]; exact hy
  have pi' : ∀ {v u}, YieldsP P ops Z w oi v a → YieldsP P ops Z w oi v (a.put oj.dst u) := fun hy => by unfold YieldsP keepsAt at *; rw [ei, wi]; exact hy
  have ai : ∀ {mk b u}, AllocsAt P ops oi a mk b → AllocsAt P ops oi (a.put oj.dst u) mk b := fun hy => by unfold AllocsAt at *; rw [ei, wi]; exact hy
  have si' : ∀ {z b0 b1 v u}, StoresV P ops Z w oi a z b0 b1 v → StoresV P ops Z w oi (a.put oj.dst u) z b0 b1 v := fun hy => by unfold StoresV at *; rw [ei, wi]; exact hy
  have pc : ∀ v u, (a.put oj.dst u).put oi.dst v = (a.put oi.dst v).put oj.dst u := fun v u => (Act.put_comm a v u h2).symm
  have less : ∀ {v g b}, w.heap.size ≤ g → U g = none → YieldsU P ops w U oi v a → YieldsU P ops w (U.put g b) oi v a := fun hg hf hy => by
    rcases hy with ⟨y1, y2⟩ | y
    · exact .inl ⟨y1, fun W hW => y2 W (hW.less hg hf)⟩
    · exact .inr y
  cases ki <;> cases kj <;> simp only [needE] at hn
  all_goals first | exact absurd hn (by decide) | skip
  · obtain ⟨v, hv, u, hu, hK⟩ := h
    exact ⟨u, qj hu, v, qi hv, by rw [pc]; exact hK⟩
  · obtain ⟨v, hv, u, hu, hK⟩ := h
    exact ⟨u, pj hu, v, qi hv, by rw [pc]; exact hK⟩
  · obtain ⟨v, hv, mk, b, hA, hK⟩ := h
    exact ⟨mk, b, aj hA, fun g hg hf => ⟨v, qi (less hg hf hv), by rw [pc]; exact hK g hg hf⟩⟩
  · obtain ⟨v, hv, u, hu, hK⟩ := h
    exact ⟨u, qj hu, v, pi' hv, by rw [pc]; exact hK⟩
  · obtain ⟨v, hv, u, hu, hK⟩ := h
    exact ⟨u, pj hu, v, pi' hv, by rw [pc]; exact hK⟩
  · obtain ⟨v, hv, mk, b, hA, hK⟩ := h
    exact ⟨mk, b, aj hA, fun g hg hf => ⟨v, pi' hv, by rw [pc]; exact hK g hg hf⟩⟩
  · obtain ⟨v, hv, z, b0, b1, x, hZ, hz, hS, hK⟩ := h
    exact ⟨z, b0, b1, x, hZ, hz, sj' hS, v, pi' hv, by rw [pc]; exact hK⟩
  · obtain ⟨mk, b, hA, H⟩ := h
    obtain ⟨g0, hg0, hf0⟩ := hU.new w.heap.size
    obtain ⟨mk', b', hA', _⟩ := H g0 hg0 hf0
    refine ⟨mk', b', aj hA', fun g' hg' hf' => ⟨mk, b, ai hA, fun g hg hf => ?_⟩⟩
    have hne : g ≠ g' := fun e => by subst e; rw [Ov.put_same] at hf; cases hf
    rw [Ov.put_ne _ _ hne] at hf
    obtain ⟨mk2, b2, hA2, hK⟩ := H g hg hf
    obtain ⟨rfl, rfl⟩ := AllocsAt.uniq w (aj hA') (aj hA2)
    rw [pc, Ov.put_comm U b' b (Ne.symm hne)]
    exact hK g' hg' (by rw [Ov.put_ne _ _ (Ne.symm hne)]; exact hf')
  · obtain ⟨z, b0, b1, x, hZ, hz, hS, u, hu, hK⟩ := h
    exact ⟨u, pj hu, z, b0, b1, x, hZ, hz, si' hS, by rw [pc]; exact hK⟩
  · obtain ⟨z, b0, b1, x, hZ, hz, hS, mk, b, hA, hK⟩ := h
    refine ⟨mk, b, aj hA, fun g hg hf => ?_⟩
    have hne : z ≠ g := fun e => by subst e; rw [hf] at hz; cases hz
    refine ⟨z, b0, b1, x, hZ, by rw [Ov.put_ne _ _ hne]; exact hz, si' hS, ?_⟩
    rw [pc, Ov.put_comm U b b1 (Ne.symm hne)]
    exact hK g hg (by rw [Ov.put_ne _ _ (Ne.symm hne)]; exact hf)
end
theorem Eff.fin {o : Oper} {a : Act} {U : Ov} {K : Act → Ov → Prop} {k : Kd} (hU : U.fin) (h : Eff P ops Z w o a U K k) : Eff P ops Z w o a U (fun a' U' => U'.fin ∧ K a' U') k := by
  cases k with
  | q => obtain ⟨v, h1, h2⟩ := h; exact ⟨v, h1, hU, h2⟩
  | p => obtain ⟨v, h1, h2⟩ := h; exact ⟨v, h1, hU, h2⟩
  | a => obtain ⟨mk, b, h1, h2⟩ := h; exact ⟨mk, b, h1, fun g h3 h4 => ⟨hU.put _ _, h2 g h3 h4⟩⟩
  | s => obtain ⟨z, b0, b1, v, h0, h1, h2, h3⟩ := h; exact ⟨z, b0, b1, v, h0, h1, h2, hU.put _ _, h3⟩

/-! Who waits for whom -/
def reachB (md : Region.Mode) (ops : Array Oper) (i : Nat) : Nat → Nat → Bool
  | 0, _ => false
  | f + 1, j => match ops[j]? with
    | some o => o.after.any (fun e => Region.binds md e && (e.on == i || reachB md ops i f e.on))
    | none => false
theorem reach_done {i n : Nat} {done : Array Bool} (inv : HeadInv md ops n done) : ∀ (f j : Nat), reachB md ops i f j = true → done.getD j false = true → done.getD i false = true
  | 0, j, h, _ => by simp [reachB] at h
  | f + 1, j, h, hj => by
    unfold reachB at h
    split at h
    · rename_i o ho
      obtain ⟨e, he, hb⟩ := Array.any_eq_true'.1 h
      simp only [Bool.and_eq_true, Bool.or_eq_true, beq_iff_eq] at hb
      have h2 := inv.closed j o ho hj e he hb.1
      rcases hb.2 with h3 | h3
      · rw [← h3]; exact h2
      · exact reach_done inv f e.on h3 h2
    · cases h
theorem reach_waits {i j f n : Nat} {done : Array Bool} (inv : HeadInv md ops n done) (h : reachB md ops i f j = true) (hi : done.getD i true = false) : j ∉ Region.ready md ops done := by
  intro hj
  obtain ⟨_, o, ho, hall⟩ := mem_ready.1 hj
  have : done.getD i false = true := by
    cases f with
    | zero => simp [reachB] at h
    | succ f =>
      unfold reachB at h
      rw [ho] at h
      obtain ⟨e, he, hb⟩ := Array.any_eq_true'.1 h
      simp only [Bool.and_eq_true, Bool.or_eq_true, beq_iff_eq] at hb
      have h2 := hall e he hb.1
      rcases hb.2 with h3 | h3
      · rw [← h3]; exact h2
      · exact reach_done inv f e.on h3 h2
  rw [getD_both hi] at this
  cases this
def edgesU (md : Region.Mode) (ops : Array Oper) (kd : Nat → Kd) (N : Nat) : Bool := (List.range N).all fun j => (List.range j).all fun i => !needE (kd i) (kd j) || reachB md ops i N j
theorem edgesU_spec {kd : Nat → Kd} {N : Nat} (h : edgesU md ops kd N = true) {j i : Nat} (hj : j < N) (hi : i < j) (hn : needE (kd i) (kd j) = true) : reachB md ops i N j = true := by
  unfold edgesU at h
  have h1 := List.all_eq_true.1 (List.all_eq_true.1 h j (List.mem_range.2 hj)) i (List.mem_range.2 hi)
  rw [hn] at h1
  simpa using h1

/-! Every order -/
def HeadU (P : Program) (md : Region.Mode) (ops : Array Oper) (Z : Nat → Prop) (w : World) (kd : Nat → Kd) (N : Nat) (L : Array Bool → Act → Ov → Prop) : Nat → Array Bool → Act → Ov → Prop
  | 0, done, a, U => L done a U
  | f + 1, done, a, U => Region.ready md ops done ≠ [] ∧ ∀ i ∈ Region.ready md ops done, i < N ∧ ∃ o, ops[i]? = some o ∧ Eff P ops Z w o a U (HeadU P md ops Z w kd N L f (done.setIfInBounds i true)) (kd i)
variable {kd : Nat → Kd} {N : Nat}
theorem HeadU.any {L : Array Bool → Act → Ov → Prop} {g : Nat} {Q : Exit → Act → World → Prop} (hL : ∀ done a U W, Ov.ok U w W → L done a U → wpAny P md ops Q g done a W) (f : Nat) :
    ∀ (done : Array Bool) (a : Act) (U : Ov) (W : World), Ov.ok U w W → U.inv Z w → HeadU P md ops Z w kd N L f done a U → wpAny P md ops Q (f + g) done a W := by
  induction f with
  | zero => intro done a U W hw _ h; rw [Nat.zero_add]; exact hL _ _ _ _ hw h
  | succ f ih =>
    intro done a U W hw hI h
    rw [show f + 1 + g = (f + g) + 1 by omega]
    refine ⟨fun h0 => absurd h0 h.1, fun i hi => ?_⟩
    obtain ⟨_, o, ho, hE⟩ := h.2 i hi
    cases hkd : kd i with
    | q =>
      rw [hkd] at hE
      obtain ⟨v, hy, hK⟩ := hE
      refine wpOp_of_qOp (C := fun w' => Below W.heap.size W w') (K := fun a' => a' = a.put o.dst v) (Below.refl _ _) (fun a' w' hw' e => by subst e; exact ih _ _ _ _ (hw.go hw') hI hK) ?_
      unfold qOp
      simp only [ho]
      rcases hy with ⟨h1, h2⟩ | ⟨h1, rfl⟩
      · rw [if_pos h1]
        exact ⟨v, fun w' hw' => quietUpon_mono (fun w'' h' => hw'.trans (h'.mono hw'.size)) (h2 w' (hw.go hw')), rfl⟩
      · rw [if_neg (by rw [h1]; exact Bool.false_ne_true)]
    | p =>
      rw [hkd] at hE
      obtain ⟨v, hy, hK⟩ := hE
      refine wpOp_of_qOp (C := fun w' => Below W.heap.size W w') (K := fun a' => a' = a.put o.dst v) (Below.refl _ _) (fun a' w' hw' e => by subst e; exact ih _ _ _ _ (hw.go hw') hI hK) ?_
      unfold qOp
      simp only [ho]
      rcases hy with ⟨h1, h2⟩ | ⟨h1, rfl⟩
      · rw [if_pos h1]
        exact ⟨v, fun w' hw' => quietUpon_mono (fun w'' h' => hw'.trans (h'.mono hw'.size)) (h2 w' ((hw.st hI).go hw')), rfl⟩
      · rw [if_neg (by rw [h1]; exact Bool.false_ne_true)]
    | a =>
      rw [hkd] at hE
      obtain ⟨mk, b, ⟨h1, h2⟩, hK⟩ := hE
      unfold wpOp
      simp only [ho]
      rw [if_pos h1]
      refine .inl ?_
      unfold Oper.wp
      rw [h2, Oper.upon_value]
      exact ih _ _ _ _ (hw.alloc b) (hI.put b (.inr hw.all.size)) (hK _ hw.all.size hw.new)
    | s =>
      rw [hkd] at hE
      obtain ⟨z, b0, b1, v, hZ, hz0, ⟨h1, h2⟩, hK⟩ := hE
      have h3 := h2 W (hw.st hI) (hw.has z b0 hz0)
      unfold wpOp
      simp only [ho]
      rw [if_pos h1]
      refine .inl ?_
      unfold Oper.wp
      generalize (execOp a.eval o).run P W = r at h3
      cases r with
      | ok n W' =>
        cases n <;> simp only [upZ] at h3 <;> simp only [Oper.upon]
        case value u =>
          obtain ⟨e1, hz', hk, hB⟩ := h3
          rw [e1]
          exact ih _ _ _ _ (hw.store hz' hk hB) (hI.put b1 hZ) hK
        case skip =>
          obtain ⟨e1, hz', hk, hB⟩ := h3
          rw [← e1]
          exact ih _ _ _ _ (hw.store hz' hk hB) (hI.put b1 hZ) hK
        case enter f' args =>
          obtain ⟨e1, hc⟩ := h3
          rw [e1]
          exact hc.mono fun e w'' ⟨he, hz', hk, hB⟩ => by subst he; exact ih _ _ _ _ (hw.store hz' hk hB) (hI.put b1 hZ) hK
      | halt x W' => simp only [upZ] at h3

theorem HeadU.first {L : Array Bool → Act → Ov → Prop} {i : Nat} {oi : Oper} (hi : ops[i]? = some oi) (hiN : i < N) (hsel : ∀ (j : Nat) (o : Oper) cs b, ops[j]? = some o → o.op ≠ .select cs b)
    (hE : edgesU md ops kd N = true) (hs : Region.sinkB md ops N = true) (hc : Region.chainB md ops N = true) (hn : N < ops.size) (hL : ∀ done a U, L done a U → ∀ j ∈ Region.ready md ops done, N ≤ j) (f : Nat) :
    ∀ (done : Array Bool) (a : Act) (U : Ov), HeadInv md ops N done → U.fin → (∀ j, j < i → done.getD j true = true) →
      (∀ j oj, ops[j]? = some oj → j ≠ i → done.getD j true = false → (∀ e ∈ oj.after, Region.binds md e = true → e.on ≠ i) → oi.apart ops oj = true) →
      i ∈ Region.ready md ops done → Eff P ops Z w oi a U (HeadU P md ops Z w kd N L f (done.setIfInBounds i true)) (kd i) → HeadU P md ops Z w kd N L (f + 1) done a U := by
  have low : ∀ done, HeadInv md ops N done → i ∈ Region.ready md ops done → ∀ j ∈ Region.ready md ops done, j < N := fun done inv hr j hj => by
    rcases Nat.lt_or_ge j N with h | h
    · exact h
    · exact absurd hj (tail_waits hs hc hn inv _ i rfl hiN (mem_ready.1 hr).1 j h)
  have some_one : ∀ {o : Oper} {a : Act} {U : Ov} {K : Act → Ov → Prop} {k : Kd}, U.fin → Eff P ops Z w o a U K k → ∃ a' U', K a' U' := by
    intro o a U K k hU h
    cases k with
    | q => obtain ⟨v, _, h2⟩ := h; exact ⟨_, _, h2⟩
    | p => obtain ⟨v, _, h2⟩ := h; exact ⟨_, _, h2⟩
    | a => obtain ⟨mk, b, _, h2⟩ := h; obtain ⟨g, h3, h4⟩ := hU.new w.heap.size; exact ⟨_, _, h2 g h3 h4⟩
    | s => obtain ⟨z, b0, b1, v, _, _, _, h2⟩ := h; exact ⟨_, _, h2⟩
  induction f with
  | zero =>
    intro done a U inv hU _ _ hr H
    refine ⟨fun h => (by rw [h] at hr; cases hr), fun j hj => ⟨low done inv hr j hj, ?_⟩⟩
    rcases Nat.decEq j i with hji | hji
    · obtain ⟨a', U', hl⟩ := some_one hU H
      have := hL _ _ _ hl j (ready_mono hj hji)
      have := low done inv hr j hj
      omega
    · subst hji; exact ⟨oi, hi, H⟩
  | succ f ih =>
    intro done a U inv hU hd hfree hr H
    refine ⟨fun h => (by rw [h] at hr; cases hr), fun j hj => ⟨low done inv hr j hj, ?_⟩⟩
    rcases Nat.decEq j i with hji | hji
    · obtain ⟨hjun, oj, hoj, hall⟩ := mem_ready.1 hj
      have hun := (mem_ready.1 hr).1
      have hnot : ∀ e ∈ oj.after, Region.binds md e = true → e.on ≠ i := fun e he hb heq => by
        have h1 := hall e he hb
        rw [heq, getD_both hun] at h1
        cases h1
      have hap := hfree j oj hoj hji hjun hnot
      have back : ∀ k, (done.setIfInBounds j true).getD k true = false → done.getD k true = false := fun k hk => by
        rcases Nat.decEq j k with hjk | hjk
        · rw [getD_set_ne true hjk] at hk; exact hk
        · subst hjk; exact hjun
      have hij : i < j := by
        rcases Nat.lt_or_ge i j with h | h
        · exact h
        · have := hd j (by omega)
          rw [hjun] at this
          cases this
      have hjN := low done inv hr j hj
      have hne : needE (kd i) (kd j) = false := by
        cases hq : needE (kd i) (kd j) with
        | false => rfl
        | true => exact absurd hj (reach_waits inv (edgesU_spec hE hjN hij hq) hun)
      refine ⟨oj, hoj, ?_⟩
      have H2 : Eff P ops Z w oi a U (fun a1 U1 => Eff P ops Z w oj a1 U1 (HeadU P md ops Z w kd N L f ((done.setIfInBounds j true).setIfInBounds i true)) (kd j)) (kd i) := H.mono fun a1 U1 h => by
        obtain ⟨_, oj', hoj', hh⟩ := h.2 j (ready_mono hj hji)
        obtain rfl : oj = oj' := Option.some.inj (hoj.symm.trans hoj')
        rw [Array.setIfInBounds_comm _ _ hji]
        exact hh
      have H3 := Eff.fin hU (Eff.comm hne (fun cs b => hsel i oi cs b hi) (fun cs b => hsel j oj cs b hoj) hap hU H2)
      refine H3.mono fun a2 U2 ⟨hf2, h2⟩ => ih _ a2 U2 (inv.set hj hjN) hf2 (fun k hk => by rw [getD_set_ne true (by omega)]; exact hd k hk) (fun k ok hk hki hun' hno => hfree k ok hk hki (back k hun') hno) (ready_mono hr (Ne.symm hji)) h2
    · subst hji; exact ⟨oi, hi, H⟩

/-- The walk in the text's order. -/
def wpU (P : Program) (ops : Array Oper) (Z : Nat → Prop) (w : World) (kd : Nat → Kd) (R : Act → Ov → Prop) : Nat → List Oper → Act → Ov → Prop
  | _, [], a, U => R a U
  | k, o :: os, a, U => Eff P ops Z w o a U (wpU P ops Z w kd R (k + 1) os) (kd k)
theorem HeadU.lex {g : Nat} {R : Act → Ov → Prop} (hsel : Region.noSelect ops = true) (hE : edgesU md ops kd N = true) (hs : Region.sinkB md ops N = true) (hc : Region.chainB md ops N = true) (hn : N < ops.size) (l : List Oper) :
    ∀ (k : Nat) (done : Array Bool) (a : Act) (U : Ov), (∀ j, j < l.length → l[j]? = ops[k + j]?) → k + l.length = N → HeadInv md ops N done → (∀ j, j < k → done.getD j true = true) → U.fin →
      Region.lexHead md ops g l.length k done = true → wpU P ops Z w kd R k l a U →
      HeadU P md ops Z w kd N (fun done' a' U' => Region.seqB md ops g N done' = true ∧ R a' U') l.length done a U := by
  induction l with
  | nil =>
    intro k done a U _ hk _ _ _ hB h
    obtain rfl : k = N := by simpa using hk
    exact ⟨by simpa [Region.lexHead] using hB, h⟩
  | cons o l ih =>
    intro k done a U hl hk inv hd hU hB h
    have h0 : ops[k]? = some o := by simpa using (hl 0 (by simp)).symm
    simp only [List.length_cons] at hk hB ⊢
    rw [Region.lexHead, Bool.and_eq_true, Bool.and_eq_true] at hB
    obtain ⟨⟨hr, hf⟩, hB'⟩ := hB
    have hr' : k ∈ Region.ready md ops done := by simpa using hr
    have hd' : ∀ j, j < k + 1 → (done.setIfInBounds k true).getD j true = true := fun j hj => by
      rcases Nat.decEq k j with hkj | hkj
      · rw [getD_set_ne true hkj]; exact hd j (by omega)
      · subst hkj
        have hks : k < done.size := by rw [inv.size]; omega
        simp [hks]
    refine HeadU.first h0 (by omega) (Region.noSelect_spec hsel) hE hs hc hn (fun done' a' U' hL => seqB_ready hL.1) l.length done a U inv hU hd (Region.free_spec h0 hf) hr' ?_
    exact (Eff.fin hU h).mono fun a' U' ⟨hf', h'⟩ => ih (k + 1) _ a' U' (fun j hj => by have := hl (j + 1) (by simp; omega); simpa [Nat.add_assoc, Nat.add_comm 1 j] using this) (by omega) (inv.set hr' (by omega)) hd' hf' hB' h'

/-- **A drawn region**, walked in the text's order. -/
theorem wp_region_uni {id : Nat} {Q : Exit → Act → World → Prop} {a : Act} {l : List Oper} (N : Nat) (kd : Nat → Kd) (U : Ov) (hU : U.fin) (hok : U.ok w w) (hI : U.inv Z w) (hm : P.follows .mixedOrders = true) (hB : Region.lexTailB .any l.toArray N = true) (hE : edgesU .any l.toArray kd N = true)
    (h : wpU P l.toArray Z w kd (fun a' U' => ∀ W, U'.ok w W → wpList P l.toArray Q (l.drop N) a' W) 0 (l.take N) a U) : (Code.region id l.toArray true).wp P Q a w := by
  simp only [Region.lexTailB, Bool.and_eq_true, decide_eq_true_eq] at hB
  obtain ⟨⟨⟨⟨hsel, hn⟩, hs⟩, hc⟩, hlex⟩ := hB
  have hn' : N < l.length := by simpa using hn
  have htl : (l.take N).length = N := by simp; omega
  have hdl : (l.drop N).length = l.toArray.size - N := by simp
  have start : HeadInv .any l.toArray N (Array.replicate l.toArray.size false) := by
    constructor
    · simp
    · intro j oj _ hl; rw [getD_replicate_false] at hl; cases hl
    · intro t _ ht; exact getD_in (by simpa using ht) (getD_replicate_false _ _)
  have H := HeadU.lex (P := P) (w := w) (md := .any) (kd := kd) (N := N) (g := l.toArray.size - N) (R := fun a' U' => ∀ W, U'.ok w W → wpList P l.toArray Q (l.drop N) a' W) hsel hE hs hc hn (l.take N) 0 _ a U
    (fun j hj => by rw [htl] at hj; simp [hj]) (by rw [htl]; omega) start (fun j hj => by omega) hU (by rw [htl]; exact hlex) h
  rw [htl] at H
  refine wp_region_any hm ?_
  have := HeadU.any (Q := Q) (g := l.toArray.size - N) (fun done a' U' W hW hL => by
    have := wpAny_of_seq (md := .any) (Q' := Q) (l.drop N) N done a' W (fun j => by simp [List.getElem?_drop]) (by rw [hdl]; exact hL.1) (hL.2 W hW)
    rwa [hdl] at this) _ _ _ _ _ (show Ov.ok U w { w with drawn := w.drawn + 1 } from ⟨(Below.refl 0 w).drew, hok.keep, hok.has⟩) hI H
  rwa [show N + (l.toArray.size - N) = l.toArray.size by omega] at this
end
end Go.Proofs.Ythepafendopfhaa
