/- More laws over a list of blocks and a further block: an own row appended, a map written. No walk. Printed by gen/clk.py. -/
import Derived.Test.YtbphdmnomakeoaaDoorJo19
import Derived.Deep.Upon
import Derived.Maps.OwnSet
namespace Go.Proofs.YtbphdmnomakeoaaDoor
open Go.RowKit
set_option linter.unusedVariables false
set_option maxRecDepth 100000

theorem rowE_blk {w0 w : World} {l : Ents} {v : Value} {e : TypeId} {cur : List Value} (h : Hp w0 w l) (hin : ∀ x ∈ rowE v e cur, x ∈ l) {B : Option Addr} {n c : Nat} (hv : v = .slice B n c) : ∀ g, B = some ⟨g, 0, none⟩ → Blk w g e cur.toArray := by
  rintro g rfl
  subst hv
  exact (h.blk (g, e, cur) (hin _ (by simp [rowE]))).2
section
variable {w0 w w' : World} {l : Ents} {M : Nat} {ob ob' : Obj}
/-- The further block turns, all others stay. -/
theorem Hm.turned (h : Hm w0 w M ob l) (hg : w.grownBy w' (some M)) (hm : w'.heap[M]? = some ob') (h0 : w0.heap.size ≤ M) : Hm w0 w' M ob' l := by
  refine ⟨⟨fun x hx => ⟨(h.hp.blk x hx).1, ?_⟩, h.hp.nd, ⟨hg.os.trans h.hp.bel.os, hg.tape.trans h.hp.bel.tape, hg.output.trans h.hp.bel.output, Nat.le_trans h.hp.bel.size hg.size, fun k hk => (hg.block k (Nat.lt_of_lt_of_le hk h.hp.bel.size) (by simp; omega)).trans (h.hp.bel.block k hk)⟩, h.hp.t0⟩, hm, h.out⟩
  have hb := (h.hp.blk x hx).2
  have hne := h.out x hx
  unfold Blk at hb ⊢
  rw [hg.block x.1 (h.hp.lt hx) (by simpa using hne)]
  exact hb
theorem Hm.made (h : Hp w0 w l) (o : Obj) : Hm w0 (w.alloc o) w.heap.size o l := by
  refine ⟨h.go ((Below.refl _ _).alloc (Nat.le_refl _) o), (MapKept.heap_alloc w o).1, fun x hx e => ?_⟩
  have := h.lt hx
  omega
end
section
variable {P : Program} {ops : Array Oper} {rest : List Oper} {o : Oper} {a a2 : Act} {w0 w : World} {l : Ents} {Q : Exit → Act → World → Prop} {M : Nat} {ob : Obj}
/-- append of an own row to another one -/
theorem apR {size bytes m n : Nat} {t e : TypeId} {v v2 : Value} {xs cur ys cur2 : List Value} (X T : Ents) (H : Hid (Hm w0 w M ob l)) (R : Hid (RowV size v n xs cur)) (R2 : Hid (RowV size v2 m ys cur2)) (I : InfoT P e size bytes) (hsz : 0 < size) (ht : P.underlying t = some (.slice e)) {s x : Operand}
    (hK : ∀ v' cur' W', Hid (RowV size v' (n + m) (xs ++ ys) cur') → Hid (Hm w0 W' M ob (X ++ (rowE v' e cur' ++ T))) → wpList P ops Q rest (a.put o.dst v') W')
    (hin : ∀ x ∈ rowE v2 e cur2, x ∈ l) (h1 : ys.all (·.oneCell') = true) (h63 : n + m ≤ maxLen) (hb : (n + m) * bytes ≤ 140737488355328)
    (hl : l = X ++ (rowE v e cur ++ T) := by rfl) (hgd : o.guard = none := by rfl) (ho : o.op = .call { callee := .builtin .append, args := #[s, x], argTypes := #[t, t] } := by rfl) (hs : a.eval s = v := by rfl) (hx : a.eval x = v2 := by rfl) : wpList P ops Q (o :: rest) a w := by
  subst hl
  obtain ⟨i, z, hi, hz, rfl, rfl, hzs⟩ := I.h
  refine wpList_plain hgd fun _ hK2 => ?_
  unfold Oper.wp execOp
  have step : ∃ v' w' cur', (Builtin.append_ #[t, t] o.type #[v, v2]).run P w = .ok v' w' ∧ RowV i.size v' (n + m) (xs ++ ys) cur' ∧ Hm w0 w' M ob (X ++ (rowE v' e cur' ++ T)) := by
    rcases Nat.eq_zero_or_pos m with rfl | h0
    · have hy : ys = [] := List.eq_nil_of_length_eq_zero (by simpa using R2.out.len)
      subst hy
      have hsrc : ∃ B c, v2 = .slice B 0 c := by
        rcases R2.out.or_ with ⟨rfl, _⟩ | ⟨g, cap, rfl, _⟩
        · exact ⟨_, _, rfl⟩
        · exact ⟨_, _, rfl⟩
      obtain ⟨B, c, rfl⟩ := hsrc
      have hS : _root_.Go.Src P i.size t (.slice B 0 c) 0 [] w := by
        cases B with
        | none => exact _root_.Go.Src.ofNil w ht c
        | some p => exact _root_.Go.Src.ofSlice w ht p 0 c [] (by simp) (by simp) (by simp)
      have hv : ∃ B n' c, v = .slice B n' c ∧ n' ≤ c := by
        rcases R.out.or_ with ⟨rfl, _⟩ | ⟨g, cap, rfl, h, _⟩
        · exact ⟨_, _, _, rfl, by omega⟩
        · exact ⟨_, _, _, rfl, h⟩
      obtain ⟨B2, n2, c2, rfl, h2⟩ := hv
      refine ⟨_, w, cur, run_append_nothing (P := P) w t t o.type e i ht hi B2 n2 c2 h2 _ hS, ?_, H.out⟩
      rw [List.append_nil]
      exact R.out
    · rcases R2.out.or_ with ⟨_, rfl⟩ | ⟨g, cap, rfl, _, _, hc, htk⟩
      · omega
      · have hk := (H.out.hp.blk (g, e, cur2) (hin _ (by simp [rowE]))).2
        obtain ⟨v', cur', w', hr, h2, h3, z', h4⟩ := run_append_H (P := P) t o.type i z ht hi hz hzs hsz H.out.hp R.out g m cap ys R2.out.len (fun j u hu => by
          rw [hk.cell]
          rw [← htk, List.getElem?_take] at hu
          split at hu
          · simpa using hu
          · cases hu) (fun u hu => List.all_eq_true.1 h1 u hu) h0 h63 hb
        exact ⟨v', w', cur', hr, h2, H.out.chg h3 h4⟩
  obtain ⟨v', w', cur', hr, h2, h3⟩ := step
  simp only [ho, resolve, invoke, builtin, Sem.run_bind, Sem.run_pure, Result.andThen_ok, List.map_toArray, List.map_cons, List.map_nil, hs, hx, hr]
  exact hK2 _ _ (hK v' cur' w' (Lib.hid h2) (Lib.hid h3))
end
end Go.Proofs.YtbphdmnomakeoaaDoor
