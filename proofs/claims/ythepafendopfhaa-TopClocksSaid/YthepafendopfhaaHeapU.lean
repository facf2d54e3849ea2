/- wp_region_uni over the list of the call's blocks. No program. -/
import Derived.Test.YthepafendopfhaaHeapG
import Derived.Test.YthepafendopfhaaUni
namespace Go.Proofs.Ythepafendopfhaa
open Go.RowKit
set_option linter.unusedVariables false

theorem Hp.drop {w0 w : World} {l : Ents} {x : Nat × TypeId × List Value} (h : Hp w0 w (x :: l)) : Hp w0 w l := ⟨fun y hy => h.blk y (.tail _ hy), (List.nodup_cons.1 h.nd).2, h.bel, h.t0⟩
def ovOf : Ents → Ov
  | [] => fun _ => none
  | (g, t, cs) :: l => (ovOf l).put g (.cells cs.toArray t (0, 0))
theorem ovOf_some {l : Ents} {k : Nat} {b : Obj} (h : ovOf l k = some b) : ∃ x ∈ l, x.1 = k := by
  induction l with
  | nil => cases h
  | cons x l ih =>
    obtain ⟨g, t, cs⟩ := x
    unfold ovOf Ov.put at h
    by_cases hk : k = g
    · exact ⟨_, .head _, hk.symm⟩
    · rw [if_neg hk] at h
      obtain ⟨x, hx, he⟩ := ih h
      exact ⟨x, .tail _ hx, he⟩
theorem ovOf_mem {l : Ents} (hn : (l.map (·.1)).Nodup) {x : Nat × TypeId × List Value} (hx : x ∈ l) : ovOf l x.1 = some (.cells x.2.2.toArray x.2.1 (0, 0)) := by
  induction l with
  | nil => cases hx
  | cons y l ih =>
    obtain ⟨g, t, cs⟩ := y
    rw [List.map_cons, List.nodup_cons] at hn
    unfold ovOf Ov.put
    rcases List.mem_cons.1 hx with rfl | hx
    · rw [if_pos rfl]
    · rw [if_neg (fun e => hn.1 (by rw [← e]; exact List.mem_map.2 ⟨x, hx, rfl⟩))]
      exact ih hn.2 hx
theorem ovOf_mem_b {l : Ents} (hn : (l.map (·.1)).Nodup) {k : Nat} {b : Obj} (h : ovOf l k = some b) : ∃ x ∈ l, x.1 = k ∧ b = .cells x.2.2.toArray x.2.1 (0, 0) := by
  obtain ⟨x, hx, rfl⟩ := ovOf_some h
  have := ovOf_mem hn hx
  rw [h] at this
  injection this with this
  exact ⟨x, hx, rfl, this⟩
theorem ovOf_upd {l l' : Ents} {z : Nat} {T : TypeId} {cs ds : List Value} (h : Upd l z T cs ds l') (hn : (l.map (·.1)).Nodup) : ovOf l' = (ovOf l).put z (.cells ds.toArray T (0, 0)) := by
  induction h with
  | head =>
    rename_i z _ _ _ _
    funext k
    show Ov.put (ovOf _) _ _ k = Ov.put (Ov.put (ovOf _) _ _) _ _ k
    unfold Ov.put
    by_cases hk : k = z
    · rw [if_pos hk, if_pos hk]
    · rw [if_neg hk, if_neg hk, if_neg hk]
  | tail h ih =>
    rename_i z _ _ _ l1 l2 y
    obtain ⟨g, t, es⟩ := y
    rw [List.map_cons, List.nodup_cons] at hn
    have hne : z ≠ g := fun e => hn.1 (by rw [← e]; exact List.mem_map.2 ⟨_, h.mem, rfl⟩)
    show (ovOf l2).put g _ = ((ovOf l1).put g _).put z _
    rw [ih hn.2, Ov.put_comm _ _ _ hne]

section
variable {P : Program} {ops : Array Oper} {rest : List Oper} {o : Oper} {a : Act} {w0 w : World} {l l' : Ents} {Q : Exit → Act → World → Prop} {kd : Nat → Kd} {k : Nat} {R : Act → Ents → Prop}
def YieldsL (P : Program) (ops : Array Oper) (w0 w : World) (l : Ents) (o : Oper) (v : Value) (a : Act) : Prop :=
  (Region.wanted o (yielded ops a.tmps) = true ∧ ∀ W, (ovOf l).ok w W → Hid (Hp w0 W l) → keepsAt P o a W v) ∨ (Region.wanted o (yielded ops a.tmps) = false ∧ v = undef)
/-- The walk over the list of blocks. -/
def wpL (P : Program) (ops : Array Oper) (w0 w : World) (kd : Nat → Kd) (R : Act → Ents → Prop) : Nat → List Oper → Act → Ents → Prop
  | _, [], a, l => R a l
  | k, o :: os, a, l =>
    (kd k = .q ∧ ∃ v, YieldsL P ops w0 w l o v a ∧ wpL P ops w0 w kd R (k + 1) os (a.put o.dst v) l) ∨
    (kd k = .p ∧ ∃ v, YieldsP P ops (fun _ => True) w o v a ∧ wpL P ops w0 w kd R (k + 1) os (a.put o.dst v) l) ∨
    (kd k = .a ∧ ∃ mk t cs, AllocsAt P ops o a mk (.cells cs.toArray t (0, 0)) ∧ ∀ g, wpL P ops w0 w kd R (k + 1) os (a.put o.dst (mk g)) ((g, t, cs) :: l)) ∨
    (kd k = .s ∧ ∃ z T cs ds l', Upd l z T cs ds l' ∧ StoresZ P ops o a z (.cells cs.toArray T (0, 0)) (.cells ds.toArray T (0, 0)) ∧ wpL P ops w0 w kd R (k + 1) os (a.put o.dst undef) l')
theorem wpL_nil (h : R a l) : wpL P ops w0 w kd R k [] a l := h
theorem wpL_P {v : Value} (hp : kd k = .p) (hg : Region.wanted o (yielded ops a.tmps) = true) (hr : ∀ W, (execOp a.eval o).run P W = .ok (.value v) W) (h : wpL P ops w0 w kd R (k + 1) rest (a.put o.dst v) l) : wpL P ops w0 w kd R k (o :: rest) a l :=
  .inr (.inl ⟨hp, v, .inl ⟨hg, fun W _ => by unfold keepsAt; rw [hr W]; exact ⟨rfl, rfl⟩⟩, h⟩)
theorem wpL_C {v : Value} (hp : kd k = .q) (hg : Region.wanted o (yielded ops a.tmps) = true) (hr : ∀ W, Hid (Hp w0 W l) → keepsAt P o a W v) (h : wpL P ops w0 w kd R (k + 1) rest (a.put o.dst v) l) : wpL P ops w0 w kd R k (o :: rest) a l :=
  .inl ⟨hp, v, .inl ⟨hg, fun W _ hW => hr W hW⟩, h⟩
theorem wpL_load {t T : TypeId} {p : Operand} {b j n : Nat} {cs ds : List Value} (hk : kd k = .q) (ho : o.op = .load t p) (hg : Region.wanted o (yielded ops a.tmps) = true) (hT : RowT P t n) (hp : a.eval p = .pointer (some ⟨b, j, none⟩))
    (hm : (b, T, cs) ∈ l) (hx : (cs.drop j).take n = ds) (hl : ds.length = n) (h : wpL P ops w0 w kd R (k + 1) rest (a.put o.dst (.agg ds.toArray)) l) : wpL P ops w0 w kd R k (o :: rest) a l :=
  wpL_C hk hg (fun W hW => by
    have hr := run_loadB (P := P) (t := t) (k := j) (hW.out.get hm) hT (by simpa using hx) hl
    unfold keepsAt execOp
    simp only [ho, hp, hr, Sem.run_bind, Sem.run_pure, Result.andThen_ok]
    exact ⟨rfl, rfl⟩) h
theorem wpL_A {t : TypeId} {cs : List Value} (hp : kd k = .a) (hA : Allocs P ops o (.cells cs.toArray t)) (h : ∀ g, wpL P ops w0 w kd R (k + 1) rest (a.put o.dst (.pointer (some ⟨g, 0, none⟩))) ((g, t, cs) :: l)) : wpL P ops w0 w kd R k (o :: rest) a l :=
  .inr (.inr (.inl ⟨hp, fun g => .pointer (some ⟨g, 0, none⟩), t, cs, ⟨(hA a w).1, fun W => (hA a W).2⟩, h⟩))
theorem wpL_V (t : TypeId) (cs : List Value) (n : Nat) (hp : kd k = .a) (hg : o.guard = none) (hr : ∀ W : World, (execOp a.eval o).run P W = .ok (.value (.slice (some ⟨W.heap.size, 0, none⟩) n n)) (W.alloc (.cells cs.toArray t)))
    (h : ∀ g, wpL P ops w0 w kd R (k + 1) rest (a.put o.dst (.slice (some ⟨g, 0, none⟩) n n)) ((g, t, cs) :: l)) : wpL P ops w0 w kd R k (o :: rest) a l :=
  .inr (.inr (.inl ⟨hp, fun g => .slice (some ⟨g, 0, none⟩) n n, t, cs, ⟨by simp [Region.wanted, hg], hr⟩, h⟩))
theorem storesZ_part {t T : TypeId} {p x : Operand} {z off c : Nat} {cs vs ds : List Value} (ho : o.op = .store t p x) (hg : o.guard = none) (hT : RowT P t c) (hp : a.eval p = .pointer (some ⟨z, off, none⟩)) (hx : a.eval x = .agg vs.toArray)
    (hl : vs.length = c) (hc : cs.take off ++ vs ++ cs.drop (off + c) = ds) (hk : off + c ≤ cs.length) (h1 : vs.all (·.oneCell') = true) : StoresZ P ops o a z (.cells cs.toArray T (0, 0)) (.cells ds.toArray T (0, 0)) := by
  refine ⟨by simp [Region.wanted, hg], fun W hW => ?_⟩
  have hb : Blk W z T cs.toArray := hW
  have hr := run_storeAt_mid (P := P) W z off t vs.toArray (there_of hb (by simpa [hl] using hk)) (by rw [hT.s]; simp [hl]) (all_oneCell_toArray (by simpa using h1))
  have h2 := blk_splice vs off cs.toArray W hb (by simpa [hl] using hk)
  rw [hl] at h2
  simp only [hc] at h2
  refine ⟨W.setCells z off vs, ?_, h2, (setCells_far vs off W).1, (setCells_far vs off W).2⟩
  unfold execOp
  rw [ho]
  simp only [hp, hx]
  generalize Instr.storeAt t (.pointer (some ⟨z, off, none⟩)) (.agg vs.toArray) = I at hr ⊢
  simp [go_sem, hr]
theorem wpL_S {t T : TypeId} {p x : Operand} {z off c : Nat} {cs vs ds : List Value} (hP : kd k = .s) (ho : o.op = .store t p x) (hg : o.guard = none) (hd : o.dst = none) (hT : RowT P t c) (hp : a.eval p = .pointer (some ⟨z, off, none⟩)) (hx : a.eval x = .agg vs.toArray)
    (hu : Upd l z T cs ds l') (hl : vs.length = c) (hc : cs.take off ++ vs ++ cs.drop (off + c) = ds) (hk : off + c ≤ cs.length) (h2 : vs.all (·.oneCell') = true) (h : wpL P ops w0 w kd R (k + 1) rest a l') : wpL P ops w0 w kd R k (o :: rest) a l :=
  .inr (.inr (.inr ⟨hP, z, T, cs, ds, l', hu, storesZ_part ho hg hT hp hx hl hc hk h2, by rw [hd]; exact h⟩))

theorem Hp.of_ov {W : World} (h : Hp w0 w l) (nd : (l'.map (·.1)).Nodup) (lo : ∀ x ∈ l', w0.heap.size ≤ x.1) (hok : (ovOf l').ok w W) : Hp w0 W l' :=
  ⟨fun x hx => ⟨lo x hx, hok.has _ _ (ovOf_mem nd hx)⟩, nd, h.bel.trans ⟨hok.all.os, hok.all.tape, hok.all.output, hok.all.size, fun k hk => hok.keep k (Nat.lt_of_lt_of_le hk h.bel.size) (by
    cases hu : ovOf l' k with
    | none => rfl
    | some b =>
      obtain ⟨x, hx, he⟩ := ovOf_some hu
      have := lo x hx
      omega)⟩, h.t0⟩
theorem wpU_of (h0 : Hp w0 w l) {R' : Act → Ov → Prop} (os : List Oper) : ∀ (k : Nat) (a : Act) (l1 : Ents), (l1.map (·.1)).Nodup → (∀ x ∈ l1, w0.heap.size ≤ x.1) →
    (∀ a' l2, (l2.map (·.1)).Nodup → (∀ x ∈ l2, w0.heap.size ≤ x.1) → R a' l2 → R' a' (ovOf l2)) → wpL P ops w0 w kd R k os a l1 → wpU P ops (fun _ => True) w kd R' k os a (ovOf l1) := by
  induction os with
  | nil => intro k a l1 nd lo hR h; exact hR a l1 nd lo h
  | cons o os ih =>
    intro k a l1 nd lo hR h
    show Eff P ops (fun _ => True) w o a (ovOf l1) (wpU P ops (fun _ => True) w kd R' (k + 1) os) (kd k)
    rcases h with ⟨hp, v, hy, hK⟩ | ⟨hp, v, hy, hK⟩ | ⟨hp, mk, t, cs, hA, hK⟩ | ⟨hp, z, T, cs, ds, l2, hu, hS, hK⟩
    · rw [hp]
      refine ⟨v, ?_, ih _ _ _ nd lo hR hK⟩
      rcases hy with ⟨y1, y2⟩ | y
      · exact .inl ⟨y1, fun W hW => y2 W hW (Lib.hid (h0.of_ov nd lo hW))⟩
      · exact .inr y
    · rw [hp]
      exact ⟨v, hy, ih _ _ _ nd lo hR hK⟩
    · rw [hp]
      refine ⟨mk, _, hA, fun g hg hf => ih _ _ ((g, t, cs) :: l1) ?_ ?_ hR (hK g)⟩
      · rw [List.map_cons, List.nodup_cons]
        refine ⟨fun hm => ?_, nd⟩
        obtain ⟨x, hx, he⟩ := List.mem_map.1 hm
        have := ovOf_mem nd hx
        rw [he, hf] at this
        cases this
      · intro x hx
        rcases List.mem_cons.1 hx with rfl | hx
        · exact Nat.le_trans h0.bel.size hg
        · exact lo x hx
    · rw [hp]
      have e := ovOf_upd hu nd
      refine ⟨z, _, _, undef, .inl trivial, ovOf_mem nd hu.mem, hS.v, ?_⟩
      rw [← e]
      refine ih _ _ l2 (by rw [hu.fst]; exact nd) ?_ hR hK
      exact hu.all (p := fun x => w0.heap.size ≤ x.1) (q := fun x => w0.heap.size ≤ x.1) nd (fun x _ _ hx => hx) (lo (z, T, cs) hu.mem) lo
/-- The first operations by wpKeep. -/
theorem wpL_pre (H : Hid (Hp w0 w l)) (l1 : List Oper) : ∀ (k : Nat) (a : Act), (∀ j, j < l1.length → kd (k + j) = .q) → wpKeep P ops w (fun a' => wpL P ops w0 w kd R (k + l1.length) rest a' l) l1 a → wpL P ops w0 w kd R k (l1 ++ rest) a l := by
  have hst : (ovOf l).still w := fun k b _ hu => by
    obtain ⟨x, hx, rfl, rfl⟩ := ovOf_mem_b H.out.nd hu
    exact (H.out.blk x hx).2
  induction l1 with
  | nil => intro k a _ h; exact h
  | cons o l1 ih =>
    intro k a hk h
    obtain ⟨v, hy, hK⟩ := yieldsK_of_wpKeep h
    refine .inl ⟨by simpa using hk 0 (by simp), v, ?_, ih (k + 1) _ (fun j hj => by rw [show k + 1 + j = k + (j + 1) by omega]; exact hk (j + 1) (by simp; omega)) (by rw [show k + 1 + l1.length = k + (o :: l1).length by simp only [List.length_cons]; omega]; exact hK)⟩
    rcases hy with ⟨y1, y2⟩ | y
    · exact .inl ⟨y1, fun W hW _ => y2 ⟨W, hW.below hst⟩⟩
    · exact .inr y
theorem wp_region_U {id : Nat} {ol : List Oper} (q N : Nat) (ks : List Kd) (H : Hid (Hp w0 w l)) (hm : P.follows .mixedOrders = true) (hB : Region.lexTailB .any ol.toArray N = true) (hE : edgesU .any ol.toArray (fun k => (List.replicate q Kd.q ++ ks).getD k .q) N = true) (hq : q ≤ N)
    (h : wpKeep P ol.toArray w (fun a' => wpL P ol.toArray w0 w (fun k => (List.replicate q Kd.q ++ ks).getD k .q) (fun a'' l' => ∀ W, Hid (Hp w0 W l') → wpList P ol.toArray Q (ol.drop N) a'' W) q ((ol.drop q).take (N - q)) a' l) (ol.take q) a) : (Code.region id ol.toArray true).wp P Q a w := by
  have hok : (ovOf l).ok w w := ⟨Below.refl 0 w, fun _ _ _ => rfl, fun k b hu => by
    obtain ⟨x, hx, rfl, rfl⟩ := ovOf_mem_b H.out.nd hu
    exact (H.out.blk x hx).2⟩
  have hN : N < ol.length := by
    simp only [Region.lexTailB, Bool.and_eq_true, decide_eq_true_eq] at hB
    simpa using hB.1.1.1.2
  refine wp_region_uni N _ (ovOf l) ⟨w.heap.size, fun g b hu => ?_⟩ hok (fun _ _ _ h _ => absurd trivial h) hm hB hE ?_
  · obtain ⟨x, hx, rfl, _⟩ := ovOf_mem_b H.out.nd hu
    exact H.out.lt hx
  have hs : ol.take N = ol.take q ++ (ol.drop q).take (N - q) := by
    rw [← List.take_append_drop q (ol.take N), List.take_take, Nat.min_eq_left hq, List.drop_take]
  have hql : (ol.take q).length = q := by simp; omega
  rw [hs]
  refine wpU_of (R := fun a'' l' => ∀ W, Hid (Hp w0 W l') → wpList P ol.toArray Q (ol.drop N) a'' W) H.out _ 0 a l H.out.nd (fun x hx => (H.out.blk x hx).1) (fun a'' l2 nd lo hR W hW => hR W (H.out.of_ov nd lo hW)) (wpL_pre H (ol.take q) 0 a (fun j hj => ?_) ?_)
  · rw [hql] at hj
    simp [List.getD_eq_getElem?_getD, List.getElem?_append, hj]
  · rw [hql, Nat.zero_add]
    exact h
end
end Go.Proofs.Ythepafendopfhaa
