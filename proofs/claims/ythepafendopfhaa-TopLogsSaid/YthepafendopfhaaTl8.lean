/- Slices that grow, over the list of the call's blocks. No program. · Rows of structs read element by element: no walk. Printed by gen/clk.py. · As UniR, with two further kinds of operation: c v is pure, its value known ahead, and may stand anywhere; x changes the blocks in any way (append) and waits for all others but c. A further block, of any kind, stays. No program. · A block of any kind (a map) beside the list of blocks: the laws that change blocks. No walk. · A region that draws its order, over the list of the call's own blocks. Kinds: c v yields a value known ahead and changes nothing (it may look at blocks l0 that stay); a makes a block; y runs on the blocks there are, whatever else is there, and leaves others. An operation y may stand before or behind any c, and behind a later a. No program. · append within a drawn region over the list of blocks. No program's function. -/
import Derived.Test.YthepafendopfhaaTl6
import Derived.Test.YthepafendopfhaaTl7
namespace Go.Proofs.Ythepafendopfhaa
open Go.RowKit
set_option linter.unusedVariables false

theorem Hp.perm {w0 w : World} {l l2 : Ents} (h : Hp w0 w l) (hp : l.Perm l2) : Hp w0 w l2 := ⟨fun x hx => h.blk x (hp.mem_iff.2 hx), (hp.map (·.1)).nodup_iff.1 h.nd, h.bel, h.t0⟩
theorem Hp.sub {w0 w : World} {l l2 : Ents} (h : Hp w0 w l) (hs : l2.Sublist l) : Hp w0 w l2 := ⟨fun x hx => h.blk x (hs.subset hx), (hs.map (·.1)).nodup h.nd, h.bel, h.t0⟩
theorem Upd.mid (X : Ents) {T : Ents} {g : Nat} {e : TypeId} {cs ds : List Value} : Upd (X ++ (g, e, cs) :: T) g e cs ds (X ++ (g, e, ds) :: T) := by
  induction X with
  | nil => exact .head
  | cons x X ih => exact .tail ih
/-- The block of a slice's row, if it has one. -/
def rowE (v : Value) (e : TypeId) (cur : List Value) : Ents :=
  match v with
  | .slice (some p) _ _ => [(p.block, e, cur)]
  | _ => []
/-- A slice of n elements, xs cell by cell; cur is its whole row. -/
structure RowV (size : Nat) (v : Value) (n : Nat) (xs cur : List Value) : Prop where
  len : xs.length = n * size
  or_ : (v = .slice none 0 0 ∧ n = 0) ∨ ∃ g cap, v = .slice (some ⟨g, 0, none⟩) n cap ∧ n ≤ cap ∧ cap ≤ maxLen ∧ cur.length = cap * size ∧ cur.take (n * size) = xs
theorem RowV.nil (size : Nat) : RowV size (.slice none 0 0) 0 [] [] := ⟨by simp, .inl ⟨rfl, rfl⟩⟩
theorem Hp.cons {w0 w w' : World} {X T : Ents} {t : TypeId} {cs : List Value} (h : Hp w0 w (X ++ T)) (hb : Below w.heap.size w w') (hk : Blk w' w.heap.size t cs.toArray) : Hp w0 w' (X ++ (w.heap.size, t, cs) :: T) :=
  (h.fresh hb (Nat.le_refl _) hk).perm List.perm_middle.symm
/-- Of the blocks that there were only z has changed, or z is new; l' knows of no others than l did, but z. -/
structure Chg (w w' : World) (l l' : Ents) (z : Nat) : Prop where
  all : Below 0 w w'
  old : z = w.heap.size ∨ ∃ x ∈ l, x.1 = z
  lt : z < w'.heap.size
  keep : ∀ k, k < w.heap.size → k ≠ z → w'.heap[k]? = w.heap[k]?
  sub : ∀ x ∈ l', x.1 ≠ z → x ∈ l
section
variable {P : Program} {w0 w : World} {X T : Ents} {e : TypeId} {cur xs : List Value} {v : Value} {n : Nat}
theorem run_append_H (t ty : TypeId) (i : TypeInfo) (z : Value) (ht : P.underlying t = some (.slice e)) (hi : P.info? e = some i) (hz : i.zero = some z) (hzs : z.cells.size = i.size) (hsz : 0 < i.size)
    (H : Hp w0 w (X ++ (rowE v e cur ++ T))) (R : RowV i.size v n xs cur) (b m c : Nat) (news : List Value) (hl : news.length = m * i.size) (hnews : ∀ j u, news[j]? = some u → w.cell? ⟨b, j, none⟩ = some u) (h1 : ∀ u ∈ news, u.oneCell' = true)
    (hm : 0 < m) (h63 : n + m ≤ maxLen) (hbytes : (n + m) * i.bytes ≤ 140737488355328) :
    ∃ v' cur' w', (Builtin.append_ #[t, t] ty #[v, .slice (some ⟨b, 0, none⟩) m c]).run P w = .ok v' w' ∧ RowV i.size v' (n + m) (xs ++ news) cur' ∧ Hp w0 w' (X ++ (rowE v' e cur' ++ T)) ∧ ∃ z, Chg w w' (X ++ (rowE v e cur ++ T)) (X ++ (rowE v' e cur' ++ T)) z := by
  have hsmall : n + m ≤ 9223372036854775807 := by simp only [maxLen] at h63; omega
  have hlen : (xs ++ news).length = (n + m) * i.size := by rw [List.length_append, R.len, hl, Nat.add_mul]
  have hn' : ∀ j u, news[j]? = some u → w.cell? ((⟨b, 0, none⟩ : Addr).add j) = some u := fun j u hu => by rw [Addr.add_lit, Nat.zero_add]; exact hnews j u hu
  -- a new row
  have new : ∀ (old : Nat), (∀ k, X ++ T = k → Hp w0 w k) → ∃ cur' w', w' = w.drew.alloc (.cells (xs.toArray ++ news.toArray ++ Builtin.zeroCells z.cells (grownCap w (n + m) old e - (n + m))) e) ∧
      RowV i.size (.slice (some ⟨w.heap.size, 0, none⟩) (n + m) (grownCap w (n + m) old e)) (n + m) (xs ++ news) cur' ∧ Hp w0 w' (X ++ ((w.heap.size, e, cur') :: T)) ∧ Chg w w' (X ++ (rowE v e cur ++ T)) (X ++ ((w.heap.size, e, cur') :: T)) w.heap.size := fun old hX => by
    have hge := grownCap_ge w (n + m) old e
    have hcm : grownCap w (n + m) old e ≤ maxLen := grownCap_le_maxLen w (n + m) old e h63
    refine ⟨(xs.toArray ++ news.toArray ++ Builtin.zeroCells z.cells (grownCap w (n + m) old e - (n + m))).toList, _, rfl, ⟨hlen, .inr ⟨_, _, rfl, hge, hcm, ?_, ?_⟩⟩, ?_, ?_⟩
    · simp only [Array.length_toList, Array.size_append, List.size_toArray, size_zeroCells, hzs, R.len, hl, ← Nat.add_mul]
      congr 1
      omega
    · simp only [Array.toList_append, List.append_assoc]
      rw [← List.append_assoc, ← hlen]
      exact List.take_left
    rotate_left
    · have hb := ((Below.refl w.heap.size w).drew).alloc (Nat.le_refl _) (.cells (xs.toArray ++ news.toArray ++ Builtin.zeroCells z.cells (grownCap w (n + m) old e - (n + m))) e)
      have hk := Blk.new w.drew e (xs.toArray ++ news.toArray ++ Builtin.zeroCells z.cells (grownCap w (n + m) old e - (n + m)))
      refine ⟨hb.mono (Nat.zero_le _), .inl rfl, hk.lt, fun k hk _ => hb.block k hk, fun x hx hne => ?_⟩
      simp only [List.mem_append, List.mem_cons] at hx ⊢
      rcases hx with hx | rfl | hx
      · exact .inl hx
      · exact absurd rfl hne
      · exact .inr (.inr hx)
    · refine (hX _ rfl).cons (((Below.refl w.heap.size w).drew).alloc (Nat.le_refl _) _) ?_
      have := Blk.new w.drew e (xs.toArray ++ news.toArray ++ Builtin.zeroCells z.cells (grownCap w (n + m) old e - (n + m)))
      rw [Array.toArray_toList]
      exact this
  rcases R.or_ with ⟨rfl, rfl⟩ | ⟨g, cap, rfl, hnc, hcm, hcs, htake⟩
  · have hx : xs = [] := List.eq_nil_of_length_eq_zero (by simpa using R.len)
    subst hx
    have hr := run_append_nil (P := P) w t ty e i z ht hi hz ⟨b, 0, none⟩ m c news hl hn' (by omega) (by omega) (by have hb := hbytes; simp only [Nat.zero_add] at hb; omega)
    obtain ⟨cur', w', rfl, h2, h3, h4⟩ := new 0 (fun k hk => by subst hk; exact H)
    simp only [Nat.zero_add, List.nil_append, Array.empty_append] at h2 h3 h4 ⊢
    exact ⟨_, cur', _, hr, h2, h3, _, h4⟩
  · by_cases hroom : n + m ≤ cap
    · have hb : Blk w g e cur.toArray := (H.blk (g, e, cur) (by simp [rowE])).2
      have hfit : n * i.size + news.length ≤ cur.toArray.size := by simp only [List.size_toArray]; rw [hl, hcs, ← Nat.add_mul]; exact Nat.mul_le_mul_right _ hroom
      have hr := run_append_room (P := P) w t ty e i ht hi g n cap cur.toArray hb ⟨b, 0, none⟩ m c news hl hn' h1 hroom hfit
      refine ⟨_, (cur.toArray.toList.take (n * i.size) ++ news ++ cur.toArray.toList.drop (n * i.size + news.length)), _, hr, ⟨hlen, .inr ⟨g, cap, rfl, hroom, hcm, ?_, ?_⟩⟩, ?_, g, ?_⟩
      · simp only [List.size_toArray] at hfit
        simp only [List.length_append, List.length_take, List.length_drop]
        omega
      · show List.take _ _ = _
        rw [show cur.toArray.toList.take (n * i.size) = xs from htake, ← hlen]
        exact List.take_left
      · have hu : Upd (X ++ ([(g, e, cur)] ++ T)) g e cur (cur.toArray.toList.take (n * i.size) ++ news ++ cur.toArray.toList.drop (n * i.size + news.length)) (X ++ ([(g, e, cur.toArray.toList.take (n * i.size) ++ news ++ cur.toArray.toList.drop (n * i.size + news.length))] ++ T)) := Upd.mid X
        exact H.stored hu ⟨⟨rfl, rfl, rfl, by simp, fun k hk => absurd hk (by omega)⟩, fun k _ hk => setRow_other w g k _ hk⟩ (setRow_heap w g cur.toArray _ e _ hb)
      · refine ⟨⟨rfl, rfl, rfl, by simp, fun k hk => absurd hk (by omega)⟩, .inr ⟨(g, e, cur), by simp [rowE], rfl⟩, by simpa using hb.lt, fun k _ hk => setRow_other w g k _ hk, fun x hx hne => ?_⟩
        simp only [rowE, List.mem_append, List.mem_singleton] at hx ⊢
        rcases hx with hx | rfl | hx
        · exact .inl hx
        · exact absurd rfl hne
        · exact .inr (.inr hx)
    · have hb : Blk w g e cur.toArray := (H.blk (g, e, cur) (by simp [rowE])).2
      have holds : ∀ j u, xs[j]? = some u → w.cell? ((⟨g, 0, none⟩ : Addr).add j) = some u := fun j u hu => by
        rw [Addr.add_lit, Nat.zero_add, hb.cell]
        rw [← htake, List.getElem?_take] at hu
        split at hu
        · simpa using hu
        · cases hu
      have hr := run_append_grow (P := P) w t ty e i z ht hi hz ⟨g, 0, none⟩ n cap xs R.len holds ⟨b, 0, none⟩ m c news hl hn' (by omega) (by omega) (growslice_fits (by omega) hbytes)
      obtain ⟨cur', w', rfl, h2, h3, h4⟩ := new cap (fun k hk => by
        subst hk
        exact H.sub (List.Sublist.append (List.Sublist.refl _) (List.sublist_append_right _ _)))
      exact ⟨_, cur', _, hr, h2, h3, _, h4⟩
/-- What a type's row in the table says. -/
structure InfoT (P : Program) (e : TypeId) (size bytes : Nat) : Prop where
  h : ∃ i z, P.info? e = some i ∧ i.zero = some z ∧ i.size = size ∧ i.bytes = bytes ∧ z.cells.size = size
/-- append of what lies in a block of the call's own (a literal's, say) to a slice whose row is the call's own. -/
theorem wpList_appH {ops : Array Oper} {rest : List Oper} {o : Oper} {a : Act} {l : Ents} {Q : Exit → Act → World → Prop} {size bytes b m c : Nat} {t e2 : TypeId} {news : List Value} (X T : Ents) (H : Hid (Hp w0 w l)) (R : Hid (RowV size v n xs cur)) (hl : l = X ++ (rowE v e cur ++ T)) (I : InfoT P e size bytes) (hsz : 0 < size) (ht : P.underlying t = some (.slice e)) (hgd : o.guard = none) {s x : Operand}
    (ho : o.op = .call { callee := .builtin .append, args := #[s, x], argTypes := #[t, t] }) (hs : a.eval s = v) (hx : a.eval x = .slice (some ⟨b, 0, none⟩) m c) (hm : (b, e2, news) ∈ l) (hn : news.length = m * size) (h1 : news.all (·.oneCell') = true) (h0 : 0 < m) (h63 : n + m ≤ maxLen) (hb : (n + m) * bytes ≤ 140737488355328)
    (hK : ∀ v' cur' W', Hid (RowV size v' (n + m) (xs ++ news) cur') → Hid (Hp w0 W' (X ++ (rowE v' e cur' ++ T))) → wpList P ops Q rest (a.put o.dst v') W') : wpList P ops Q (o :: rest) a w := by
  subst hl
  obtain ⟨i, z, hi, hz, rfl, rfl, hzs⟩ := I.h
  have hk := (H.out.get hm).out
  obtain ⟨v', cur', w', hr, h2, h3, _⟩ := run_append_H (P := P) t o.type i z ht hi hz hzs hsz H.out R.out b m c news hn (fun j u hu => by rw [hk.cell]; simpa using hu) (fun u hu => List.all_eq_true.1 h1 u hu) h0 h63 hb
  refine wpList_plain hgd fun _ hK2 => ?_
  unfold Oper.wp execOp
  simp only [ho, resolve, invoke, builtin, Sem.run_bind, Sem.run_pure, Result.andThen_ok, List.map_toArray, List.map_cons, List.map_nil, hs, hx, hr]
  exact hK2 _ _ (hK v' cur' w' (Lib.hid h2) (Lib.hid h3))
end
end Go.Proofs.Ythepafendopfhaa

namespace Go.Proofs.Ythepafendopfhaa
open Go.RowKit
set_option linter.unusedVariables false
set_option maxRecDepth 100000

theorem flat_take {α : Type} {enc : α → List Value} {k : Nat} (hk : ∀ x, (enc x).length = k) : ∀ {xs : List α} {j : Nat} {x : α}, xs[j]? = some x → ((flat enc xs).drop (k * j)).take k = enc x
  | [], j, x, h => by simp at h
  | y :: ys, 0, x, h => by
    have e : y = x := by simpa using h
    subst e
    show ((enc y ++ flat enc ys).drop (k * 0)).take k = enc y
    rw [Nat.mul_zero, List.drop_zero, ← hk y]
    exact List.take_left
  | y :: ys, j + 1, x, h => by
    have h2 : ys[j]? = some x := by simpa using h
    show ((enc y ++ flat enc ys).drop (k * (j + 1))).take k = enc x
    rw [show k * (j + 1) = (enc y).length + k * j by rw [hk, Nat.mul_succ]; omega, List.drop_length_add_append]
    exact flat_take hk h2
/-- An element of a row lies in the row's block. -/
theorem RowV.at_ {α : Type} {enc : α → List Value} {k n j : Nat} {v : Value} {xs : List α} {cur : List Value} {x : α} (hk : ∀ x, (enc x).length = k) (h : RowV k v n (flat enc xs) cur) (hx : xs[j]? = some x) (hp : 0 < k) : ∃ g cap, v = .slice (some ⟨g, 0, none⟩) n cap ∧ (cur.drop (k * j)).take k = enc x ∧ j < n := by
  have hl : xs.length * k = n * k := by rw [← flat_len hk xs]; exact h.len
  have hn : xs.length = n := Nat.eq_of_mul_eq_mul_right hp hl
  have hj : j < n := by rw [← hn]; exact (List.getElem?_eq_some_iff.1 hx).1
  rcases h.or_ with ⟨_, h0⟩ | ⟨g, cap, rfl, h1, h2, h3, h4⟩
  · omega
  · refine ⟨g, cap, rfl, ?_, hj⟩
    rw [← flat_take hk hx, ← h4, List.drop_take, List.take_take, Nat.min_eq_left]
    have : k * (j + 1) ≤ k * n := Nat.mul_le_mul_left k hj
    rw [Nat.mul_succ] at this
    rw [Nat.mul_comm n k]
    omega
end Go.Proofs.Ythepafendopfhaa

namespace Go.Proofs.Ythepafendopfhaa
open Go.RowKit
set_option linter.unusedVariables false

theorem Ov.fin.real {U : Ov} (h : U.fin) (w : World) : ∃ W, U.ok w W := by
  obtain ⟨x, hx⟩ := h
  refine ⟨{ w with heap := Array.ofFn (n := w.heap.size + x) (fun k => match U k.1 with | some b => b | none => (w.heap[k.1]?).getD default) }, ⟨rfl, rfl, rfl, by simp, fun k hk => absurd hk (by omega)⟩, fun k hk hu => ?_, fun k b hu => ?_⟩
  · have hk2 : k < w.heap.size + x := by omega
    simp only [Array.getElem?_ofFn, hk2, dif_pos, hu]
    rw [Array.getElem?_eq_getElem hk]
    rfl
  · have hk2 : k < w.heap.size + x := by have := hx k b hu; omega
    simp only [Array.getElem?_ofFn, hk2, dif_pos, hu]
section
variable {P : Program} {ops : Array Oper} {md : Region.Mode} {w : World} {Z : Nat → Prop}
def YieldsC (P : Program) (ops : Array Oper) (o : Oper) (v : Value) (a : Act) : Prop := Region.wanted o (yielded ops a.tmps) = true ∧ ∀ W, keepsAt P o a W v
/-- It runs in each world that U describes, and leaves one that another U' describes. -/
def RunsX (P : Program) (ops : Array Oper) (w : World) (o : Oper) (a : Act) (U : Ov) (S : Value → Ov → Prop) : Prop :=
  Region.wanted o (yielded ops a.tmps) = true ∧ ∀ W, U.ok w W → ∃ v W' U', (execOp a.eval o).run P W = .ok (.value v) W' ∧ U'.ok w W' ∧ U'.fin ∧ S v U'
inductive KdX | q | p | a | s | r (v : Value) | c (v : Value) | x
def EffX (P : Program) (ops : Array Oper) (Z : Nat → Prop) (w : World) (o : Oper) (a : Act) (U : Ov) (K : Act → Ov → Prop) : KdX → Prop
  | .q => ∃ v, YieldsU P ops w U o v a ∧ K (a.put o.dst v) U
  | .p => ∃ v, YieldsP P ops Z w o v a ∧ K (a.put o.dst v) U
  | .a => ∃ mk b, AllocsAt P ops o a mk b ∧ ∀ g, w.heap.size ≤ g → U g = none → K (a.put o.dst (mk g)) (U.put g b)
  | .s => ∃ z b0 b1 v, (Z z ∨ w.heap.size ≤ z) ∧ U z = some b0 ∧ StoresV P ops Z w o a z b0 b1 v ∧ K (a.put o.dst v) (U.put z b1)
  | .r v => U.still w ∧ YieldsR P ops w o v a ∧ K (a.put o.dst v) U
  | .c v => YieldsC P ops o v a ∧ K (a.put o.dst v) U
  | .x => (∀ k, Z k) ∧ RunsX P ops w o a U (fun v U' => K (a.put o.dst v) U')
/-- These two must not change places: the later one has to wait. -/
def needX : KdX → KdX → Bool
  | .q, .s => true
  | .s, .q => true
  | .s, .s => true
  | .a, .q => true
  | .a, .p => true
  | .a, .s => true
  | .r _, .s => true
  | .s, .r _ => true
  | .c _, _ => false
  | _, .c _ => false
  | .x, _ => true
  | _, .x => true
  | _, _ => false
theorem EffX.mono {o : Oper} {a : Act} {U : Ov} {K K' : Act → Ov → Prop} {k : KdX} (hK : ∀ a U, K a U → K' a U) (h : EffX P ops Z w o a U K k) : EffX P ops Z w o a U K' k := by
  cases k with
  | q => obtain ⟨v, h1, h2⟩ := h; exact ⟨v, h1, hK _ _ h2⟩
  | p => obtain ⟨v, h1, h2⟩ := h; exact ⟨v, h1, hK _ _ h2⟩
  | a => obtain ⟨mk, b, h1, h2⟩ := h; exact ⟨mk, b, h1, fun g h3 h4 => hK _ _ (h2 g h3 h4)⟩
  | s => obtain ⟨z, b0, b1, v, h0, h1, h2, h3⟩ := h; exact ⟨z, b0, b1, v, h0, h1, h2, hK _ _ h3⟩
  | r v => obtain ⟨h0, h1, h2⟩ := h; exact ⟨h0, h1, hK _ _ h2⟩
  | c v => exact ⟨h.1, hK _ _ h.2⟩
  | x => exact ⟨h.1, h.2.1, fun W hW => by obtain ⟨v, W', U', h1, h2, h3, h4⟩ := h.2.2 W hW; exact ⟨v, W', U', h1, h2, h3, hK _ _ h4⟩⟩
section
variable {oi oj : Oper} {a : Act} {U : Ov} {K : Act → Ov → Prop}
/-- What may change places does. -/
theorem EffX.comm {ki kj : KdX} (hn : needX ki kj = false) (si : ∀ cs b, oi.op ≠ .select cs b) (sj : ∀ cs b, oj.op ≠ .select cs b) (hap : oi.apart ops oj = true) (hU : U.fin)
    (h : EffX P ops Z w oi a U (fun a1 U1 => EffX P ops Z w oj a1 U1 K kj) ki) : EffX P ops Z w oj a U (fun a2 U2 => EffX P ops Z w oi a2 U2 K ki) kj := by
  obtain ⟨h1, h2, h3⟩ := Oper.apart_spec hap
  have ej : ∀ u, execOp (a.put oi.dst u).eval oj = execOp a.eval oj := fun u => execOp_put oj sj a oi.dst u h1
  have wj : ∀ u, Region.wanted oj (yielded ops (a.put oi.dst u).tmps) = Region.wanted oj (yielded ops a.tmps) := fun u => wanted_put oj a oi.dst u h1
  have ei : ∀ u, execOp (a.put oj.dst u).eval oi = execOp a.eval oi := fun u => execOp_put oi si a oj.dst u h3
  have wi : ∀ u, Region.wanted oi (yielded ops (a.put oj.dst u).tmps) = Region.wanted oi (yielded ops a.tmps) := fun u => wanted_put oi a oj.dst u h3
  have qj : ∀ {V : Ov} {v u}, YieldsU P ops w V oj v (a.put oi.dst u) → YieldsU P ops w V oj v a := fun hy => by unfold YieldsU keepsAt at *; rw [ej, wj] at hy; exact hy
  have pj : ∀ {v u}, YieldsP P ops Z w oj v (a.put oi.dst u) → YieldsP P ops Z w oj v a := fun hy => by unfold YieldsP keepsAt at *; rw [ej, wj] at hy; exact hy
  have aj : ∀ {mk b u}, AllocsAt P ops oj (a.put oi.dst u) mk b → AllocsAt P ops oj a mk b := fun hy => by unfold AllocsAt at *; rw [ej, wj] at hy; exact hy
  have sj' : ∀ {z b0 b1 v u}, StoresV P ops Z w oj (a.put oi.dst u) z b0 b1 v → StoresV P ops Z w oj a z b0 b1 v := fun hy => by unfold StoresV at *; rw [ej, wj] at hy; exact hy
  have qi : ∀ {V : Ov} {v u}, YieldsU P ops w V oi v a → YieldsU P ops w V oi v (a.put oj.dst u) := fun hy => by unfold YieldsU keepsAt at *; rw [ei, wi]; exact hy
  have pi' : ∀ {v u}, YieldsP P ops Z w oi v a → YieldsP P ops Z w oi v (a.put oj.dst u) := fun hy => by unfold YieldsP keepsAt at *; rw [ei, wi]; exact hy
  have ai : ∀ {mk b u}, AllocsAt P ops oi a mk b → AllocsAt P ops oi (a.put oj.dst u) mk b := fun hy => by unfold AllocsAt at *; rw [ei, wi]; exact hy
  have si' : ∀ {z b0 b1 v u}, StoresV P ops Z w oi a z b0 b1 v → StoresV P ops Z w oi (a.put oj.dst u) z b0 b1 v := fun hy => by unfold StoresV at *; rw [ei, wi]; exact hy
  have pc : ∀ v u, (a.put oj.dst u).put oi.dst v = (a.put oi.dst v).put oj.dst u := fun v u => (Act.put_comm a v u h2).symm
  have less : ∀ {v g b}, w.heap.size ≤ g → U g = none → YieldsU P ops w U oi v a → YieldsU P ops w (U.put g b) oi v a := fun hg hf hy => by
    rcases hy with ⟨y1, y2⟩ | y
    · exact .inl ⟨y1, fun W hW => y2 W (hW.less hg hf)⟩
    · exact .inr y
  have rj : ∀ {v u}, YieldsR P ops w oj v (a.put oi.dst u) → YieldsR P ops w oj v a := fun hy => by unfold YieldsR keepsAt at *; rw [ej, wj] at hy; exact hy
  have ri : ∀ {v u}, YieldsR P ops w oi v a → YieldsR P ops w oi v (a.put oj.dst u) := fun hy => by unfold YieldsR keepsAt at *; rw [ei, wi]; exact hy
  have cj : ∀ {v u}, YieldsC P ops oj v (a.put oi.dst u) → YieldsC P ops oj v a := fun hy => by unfold YieldsC keepsAt at *; rw [ej, wj] at hy; exact hy
  have ci : ∀ {v u}, YieldsC P ops oi v a → YieldsC P ops oi v (a.put oj.dst u) := fun hy => by unfold YieldsC keepsAt at *; rw [ei, wi]; exact hy
  have xj : ∀ {V : Ov} {S u}, RunsX P ops w oj (a.put oi.dst u) V S → RunsX P ops w oj a V S := fun hy => by unfold RunsX at *; rw [ej, wj] at hy; exact hy
  have xi : ∀ {V : Ov} {S u}, RunsX P ops w oi a V S → RunsX P ops w oi (a.put oj.dst u) V S := fun hy => by unfold RunsX at *; rw [ei, wi]; exact hy
  have xm : ∀ {V : Ov} {S S' : Value → Ov → Prop} {o : Oper} {a : Act}, (∀ v U', S v U' → S' v U') → RunsX P ops w o a V S → RunsX P ops w o a V S' := fun hS hy => ⟨hy.1, fun W hW => by obtain ⟨v, W', U', h1, h2, h3, h4⟩ := hy.2 W hW; exact ⟨v, W', U', h1, h2, h3, hS _ _ h4⟩⟩
  cases ki <;> cases kj <;> simp only [needX] at hn
  all_goals first | exact absurd hn (by decide) | skip
  · obtain ⟨v, hv, u, hu, hK⟩ := h
    exact ⟨u, qj hu, v, qi hv, by rw [pc]; exact hK⟩
  · obtain ⟨v, hv, u, hu, hK⟩ := h
    exact ⟨u, pj hu, v, qi hv, by rw [pc]; exact hK⟩
  · obtain ⟨v, hv, mk, b, hA, hK⟩ := h
    exact ⟨mk, b, aj hA, fun g hg hf => ⟨v, qi (less hg hf hv), by rw [pc]; exact hK g hg hf⟩⟩
  · obtain ⟨v, hv, hs, hu, hK⟩ := h
    exact ⟨hs, rj hu, v, qi hv, by rw [pc]; exact hK⟩
  · obtain ⟨v, hv, hu, hK⟩ := h
    exact ⟨cj hu, v, qi hv, by rw [pc]; exact hK⟩
  · obtain ⟨v, hv, u, hu, hK⟩ := h
    exact ⟨u, qj hu, v, pi' hv, by rw [pc]; exact hK⟩
  · obtain ⟨v, hv, u, hu, hK⟩ := h
    exact ⟨u, pj hu, v, pi' hv, by rw [pc]; exact hK⟩
  · obtain ⟨v, hv, mk, b, hA, hK⟩ := h
    exact ⟨mk, b, aj hA, fun g hg hf => ⟨v, pi' hv, by rw [pc]; exact hK g hg hf⟩⟩
  · obtain ⟨v, hv, z, b0, b1, x, hZ, hz, hS, hK⟩ := h
    exact ⟨z, b0, b1, x, hZ, hz, sj' hS, v, pi' hv, by rw [pc]; exact hK⟩
  · obtain ⟨v, hv, hs, hu, hK⟩ := h
    exact ⟨hs, rj hu, v, pi' hv, by rw [pc]; exact hK⟩
  · obtain ⟨v, hv, hu, hK⟩ := h
    exact ⟨cj hu, v, pi' hv, by rw [pc]; exact hK⟩
  · obtain ⟨mk, b, hA, H⟩ := h
    obtain ⟨g0, hg0, hf0⟩ := hU.new w.heap.size
    obtain ⟨mk', b', hA', _⟩ := H g0 hg0 hf0
    refine ⟨mk', b', aj hA', fun g' hg' hf' => ⟨mk, b, ai hA, fun g hg hf => ?_⟩⟩
    have hne : g ≠ g' := fun e => by subst e; rw [Ov.put_same] at hf; cases hf
    rw [Ov.put_ne _ _ hne] at hf
    obtain ⟨mk2, b2, hA2, hK⟩ := H g hg hf
    obtain ⟨rfl, rfl⟩ := AllocsAt.uniq w (aj hA') (aj hA2)
    rw [pc, Ov.put_comm U b' b (Ne.symm hne)]
    exact hK g' hg' (by rw [Ov.put_ne _ _ (Ne.symm hne)]; exact hf')
  · obtain ⟨mk, b, hA, H⟩ := h
    obtain ⟨g0, hg0, hf0⟩ := hU.new w.heap.size
    obtain ⟨hs, hu, _⟩ := H g0 hg0 hf0
    exact ⟨hs.of_put hf0, rj hu, mk, b, ai hA, fun g hg hf => by
      obtain ⟨_, _, hK⟩ := H g hg hf
      rw [pc]
      exact hK⟩
  · obtain ⟨mk, b, hA, H⟩ := h
    obtain ⟨g0, hg0, hf0⟩ := hU.new w.heap.size
    obtain ⟨hu, _⟩ := H g0 hg0 hf0
    exact ⟨cj hu, mk, b, ai hA, fun g hg hf => by
      obtain ⟨_, hK⟩ := H g hg hf
      rw [pc]
      exact hK⟩
  · obtain ⟨z, b0, b1, x, hZ, hz, hS, u, hu, hK⟩ := h
    exact ⟨u, pj hu, z, b0, b1, x, hZ, hz, si' hS, by rw [pc]; exact hK⟩
  · obtain ⟨z, b0, b1, x, hZ, hz, hS, mk, b, hA, hK⟩ := h
    refine ⟨mk, b, aj hA, fun g hg hf => ?_⟩
    have hne : z ≠ g := fun e => by subst e; rw [hf] at hz; cases hz
    refine ⟨z, b0, b1, x, hZ, by rw [Ov.put_ne _ _ hne]; exact hz, si' hS, ?_⟩
    rw [pc, Ov.put_comm U b b1 (Ne.symm hne)]
    exact hK g hg (by rw [Ov.put_ne _ _ (Ne.symm hne)]; exact hf)
  · obtain ⟨z, b0, b1, x, hZ, hz, hS, hu, hK⟩ := h
    exact ⟨cj hu, z, b0, b1, x, hZ, hz, si' hS, by rw [pc]; exact hK⟩
  · obtain ⟨hs, hv, u, hu, hK⟩ := h
    exact ⟨u, qj hu, hs, ri hv, by rw [pc]; exact hK⟩
  · obtain ⟨hs, hv, u, hu, hK⟩ := h
    exact ⟨u, pj hu, hs, ri hv, by rw [pc]; exact hK⟩
  · obtain ⟨hs, hv, mk, b, hA, hK⟩ := h
    exact ⟨mk, b, aj hA, fun g hg hf => ⟨hs.put b hg, ri hv, by rw [pc]; exact hK g hg hf⟩⟩
  · obtain ⟨hs, hv, hs2, hu, hK⟩ := h
    exact ⟨hs2, rj hu, hs, ri hv, by rw [pc]; exact hK⟩
  · obtain ⟨hs, hv, hu, hK⟩ := h
    exact ⟨cj hu, hs, ri hv, by rw [pc]; exact hK⟩
  · obtain ⟨hv, u, hu, hK⟩ := h
    exact ⟨u, qj hu, ci hv, by rw [pc]; exact hK⟩
  · obtain ⟨hv, u, hu, hK⟩ := h
    exact ⟨u, pj hu, ci hv, by rw [pc]; exact hK⟩
  · obtain ⟨hv, mk, b, hA, hK⟩ := h
    exact ⟨mk, b, aj hA, fun g hg hf => ⟨ci hv, by rw [pc]; exact hK g hg hf⟩⟩
  · obtain ⟨hv, z, b0, b1, x, hZ, hz, hS, hK⟩ := h
    exact ⟨z, b0, b1, x, hZ, hz, sj' hS, ci hv, by rw [pc]; exact hK⟩
  · obtain ⟨hv, hs2, hu, hK⟩ := h
    exact ⟨hs2, rj hu, ci hv, by rw [pc]; exact hK⟩
  · obtain ⟨hv, hu, hK⟩ := h
    exact ⟨cj hu, ci hv, by rw [pc]; exact hK⟩
  · obtain ⟨hv, hZ, hK⟩ := h
    exact ⟨hZ, xm (fun v U' hK => ⟨ci hv, by rw [pc]; exact hK⟩) (xj hK)⟩
  · obtain ⟨hZ, hK⟩ := h
    obtain ⟨W, hW⟩ := hU.real w
    obtain ⟨v, W', U', _, _, _, hu, _⟩ := hK.2 W hW
    exact ⟨cj hu, hZ, xm (fun v U' hK => by rw [pc]; exact hK.2) (xi hK)⟩
end
theorem EffX.fin {o : Oper} {a : Act} {U : Ov} {K : Act → Ov → Prop} {k : KdX} (hU : U.fin) (h : EffX P ops Z w o a U K k) : EffX P ops Z w o a U (fun a' U' => U'.fin ∧ K a' U') k := by
  cases k with
  | q => obtain ⟨v, h1, h2⟩ := h; exact ⟨v, h1, hU, h2⟩
  | p => obtain ⟨v, h1, h2⟩ := h; exact ⟨v, h1, hU, h2⟩
  | a => obtain ⟨mk, b, h1, h2⟩ := h; exact ⟨mk, b, h1, fun g h3 h4 => ⟨hU.put _ _, h2 g h3 h4⟩⟩
  | s => obtain ⟨z, b0, b1, v, h0, h1, h2, h3⟩ := h; exact ⟨z, b0, b1, v, h0, h1, h2, hU.put _ _, h3⟩
  | r v => obtain ⟨h0, h1, h2⟩ := h; exact ⟨h0, h1, hU, h2⟩
  | c v => exact ⟨h.1, hU, h.2⟩
  | x => exact ⟨h.1, h.2.1, fun W hW => by obtain ⟨v, W', U', h1, h2, h3, h4⟩ := h.2.2 W hW; exact ⟨v, W', U', h1, h2, h3, h3, h4⟩⟩
def edgesX (md : Region.Mode) (ops : Array Oper) (kd : Nat → KdX) (N : Nat) : Bool := (List.range N).all fun j => (List.range j).all fun i => !needX (kd i) (kd j) || reachB md ops i N j
theorem edgesX_spec {kd : Nat → KdX} {N : Nat} (h : edgesX md ops kd N = true) {j i : Nat} (hj : j < N) (hi : i < j) (hn : needX (kd i) (kd j) = true) : reachB md ops i N j = true := by
  unfold edgesX at h
  have h1 := List.all_eq_true.1 (List.all_eq_true.1 h j (List.mem_range.2 hj)) i (List.mem_range.2 hi)
  rw [hn] at h1
  simpa using h1

/-! Every order -/
def HeadX (P : Program) (md : Region.Mode) (ops : Array Oper) (Z : Nat → Prop) (w : World) (kd : Nat → KdX) (N : Nat) (L : Array Bool → Act → Ov → Prop) : Nat → Array Bool → Act → Ov → Prop
  | 0, done, a, U => L done a U
  | f + 1, done, a, U => Region.ready md ops done ≠ [] ∧ ∀ i ∈ Region.ready md ops done, i < N ∧ ∃ o, ops[i]? = some o ∧ EffX P ops Z w o a U (HeadX P md ops Z w kd N L f (done.setIfInBounds i true)) (kd i)
variable {kd : Nat → KdX} {N : Nat}
theorem HeadX.any {L : Array Bool → Act → Ov → Prop} {g : Nat} {Q : Exit → Act → World → Prop} (hL : ∀ done a U W, Ov.ok U w W → L done a U → wpAny P md ops Q g done a W) (f : Nat) :
    ∀ (done : Array Bool) (a : Act) (U : Ov) (W : World), Ov.ok U w W → U.inv Z w → HeadX P md ops Z w kd N L f done a U → wpAny P md ops Q (f + g) done a W := by
  induction f with
  | zero => intro done a U W hw _ h; rw [Nat.zero_add]; exact hL _ _ _ _ hw h
  | succ f ih =>
    intro done a U W hw hI h
    rw [show f + 1 + g = (f + g) + 1 by omega]
    refine ⟨fun h0 => absurd h0 h.1, fun i hi => ?_⟩
    obtain ⟨_, o, ho, hE⟩ := h.2 i hi
    cases hkd : kd i with
    | q =>
      rw [hkd] at hE
      obtain ⟨v, hy, hK⟩ := hE
      refine wpOp_of_qOp (C := fun w' => Below W.heap.size W w') (K := fun a' => a' = a.put o.dst v) (Below.refl _ _) (fun a' w' hw' e => by subst e; exact ih _ _ _ _ (hw.go hw') hI hK) ?_
      unfold qOp
      simp only [ho]
      rcases hy with ⟨h1, h2⟩ | ⟨h1, rfl⟩
      · rw [if_pos h1]
        exact ⟨v, fun w' hw' => quietUpon_mono (fun w'' h' => hw'.trans (h'.mono hw'.size)) (h2 w' (hw.go hw')), rfl⟩
      · rw [if_neg (by rw [h1]; exact Bool.false_ne_true)]
    | p =>
      rw [hkd] at hE
      obtain ⟨v, hy, hK⟩ := hE
      refine wpOp_of_qOp (C := fun w' => Below W.heap.size W w') (K := fun a' => a' = a.put o.dst v) (Below.refl _ _) (fun a' w' hw' e => by subst e; exact ih _ _ _ _ (hw.go hw') hI hK) ?_
      unfold qOp
      simp only [ho]
      rcases hy with ⟨h1, h2⟩ | ⟨h1, rfl⟩
      · rw [if_pos h1]
        exact ⟨v, fun w' hw' => quietUpon_mono (fun w'' h' => hw'.trans (h'.mono hw'.size)) (h2 w' ((hw.st hI).go hw')), rfl⟩
      · rw [if_neg (by rw [h1]; exact Bool.false_ne_true)]
    | a =>
      rw [hkd] at hE
      obtain ⟨mk, b, ⟨h1, h2⟩, hK⟩ := hE
      unfold wpOp
      simp only [ho]
      rw [if_pos h1]
      refine .inl ?_
      unfold Oper.wp
      rw [h2, Oper.upon_value]
      exact ih _ _ _ _ (hw.alloc b) (hI.put b (.inr hw.all.size)) (hK _ hw.all.size hw.new)
    | s =>
      rw [hkd] at hE
      obtain ⟨z, b0, b1, v, hZ, hz0, ⟨h1, h2⟩, hK⟩ := hE
      have h3 := h2 W (hw.st hI) (hw.has z b0 hz0)
      unfold wpOp
      simp only [ho]
      rw [if_pos h1]
      refine .inl ?_
      unfold Oper.wp
      generalize (execOp a.eval o).run P W = r at h3
      cases r with
      | ok n W' =>
        cases n <;> simp only [upZ] at h3 <;> simp only [Oper.upon]
        case value u =>
          obtain ⟨e1, hz', hk, hB⟩ := h3
          rw [e1]
          exact ih _ _ _ _ (hw.store hz' hk hB) (hI.put b1 hZ) hK
        case skip =>
          obtain ⟨e1, hz', hk, hB⟩ := h3
          rw [← e1]
          exact ih _ _ _ _ (hw.store hz' hk hB) (hI.put b1 hZ) hK
        case enter f' args =>
          obtain ⟨e1, hc⟩ := h3
          rw [e1]
          exact hc.mono fun e w'' ⟨he, hz', hk, hB⟩ => by subst he; exact ih _ _ _ _ (hw.store hz' hk hB) (hI.put b1 hZ) hK
      | halt x W' => simp only [upZ] at h3
    | r v =>
      rw [hkd] at hE
      obtain ⟨hs, hy, hK⟩ := hE
      refine wpOp_of_qOp (C := fun w' => Below W.heap.size W w') (K := fun a' => a' = a.put o.dst v) (Below.refl _ _) (fun a' w' hw' e => by subst e; exact ih _ _ _ _ (hw.go hw') hI hK) ?_
      unfold qOp
      simp only [ho]
      rcases hy with ⟨h1, h2⟩ | ⟨h1, rfl⟩
      · rw [if_pos h1]
        exact ⟨v, fun w' hw' => quietUpon_mono (fun w'' h' => hw'.trans (h'.mono hw'.size)) (h2 w' ((hw.go hw').below hs)), rfl⟩
      · rw [if_neg (by rw [h1]; exact Bool.false_ne_true)]
    | c v =>
      rw [hkd] at hE
      obtain ⟨⟨h1, h2⟩, hK⟩ := hE
      refine wpOp_of_qOp (C := fun w' => Below W.heap.size W w') (K := fun a' => a' = a.put o.dst v) (Below.refl _ _) (fun a' w' hw' e => by subst e; exact ih _ _ _ _ (hw.go hw') hI hK) ?_
      unfold qOp
      simp only [ho]
      rw [if_pos h1]
      exact ⟨v, fun w' hw' => quietUpon_mono (fun w'' h' => hw'.trans (h'.mono hw'.size)) (h2 w'), rfl⟩
    | x =>
      rw [hkd] at hE
      obtain ⟨hZ, h1, h2⟩ := hE
      obtain ⟨v, W', U', hr, hok, hf, hK⟩ := h2 W hw
      unfold wpOp
      simp only [ho]
      rw [if_pos h1]
      refine .inl ?_
      unfold Oper.wp
      rw [hr, Oper.upon_value]
      exact ih _ _ _ _ hok (fun k _ _ hn _ => absurd (hZ k) hn) hK

theorem HeadX.first {L : Array Bool → Act → Ov → Prop} {i : Nat} {oi : Oper} (hi : ops[i]? = some oi) (hiN : i < N) (hsel : ∀ (j : Nat) (o : Oper) cs b, ops[j]? = some o → o.op ≠ .select cs b)
    (hE : edgesX md ops kd N = true) (hs : Region.sinkB md ops N = true) (hc : Region.chainB md ops N = true) (hn : N < ops.size) (hL : ∀ done a U, L done a U → ∀ j ∈ Region.ready md ops done, N ≤ j) (f : Nat) :
    ∀ (done : Array Bool) (a : Act) (U : Ov), HeadInv md ops N done → U.fin → (∀ j, j < i → done.getD j true = true) →
      (∀ j oj, ops[j]? = some oj → j ≠ i → done.getD j true = false → (∀ e ∈ oj.after, Region.binds md e = true → e.on ≠ i) → oi.apart ops oj = true) →
      i ∈ Region.ready md ops done → EffX P ops Z w oi a U (HeadX P md ops Z w kd N L f (done.setIfInBounds i true)) (kd i) → HeadX P md ops Z w kd N L (f + 1) done a U := by
  have low : ∀ done, HeadInv md ops N done → i ∈ Region.ready md ops done → ∀ j ∈ Region.ready md ops done, j < N := fun done inv hr j hj => by
    rcases Nat.lt_or_ge j N with h | h
    · exact h
    · exact absurd hj (tail_waits hs hc hn inv _ i rfl hiN (mem_ready.1 hr).1 j h)
  have some_one : ∀ {o : Oper} {a : Act} {U : Ov} {K : Act → Ov → Prop} {k : KdX}, U.fin → EffX P ops Z w o a U K k → ∃ a' U', K a' U' := by
    intro o a U K k hU h
    cases k with
    | q => obtain ⟨v, _, h2⟩ := h; exact ⟨_, _, h2⟩
    | p => obtain ⟨v, _, h2⟩ := h; exact ⟨_, _, h2⟩
    | a => obtain ⟨mk, b, _, h2⟩ := h; obtain ⟨g, h3, h4⟩ := hU.new w.heap.size; exact ⟨_, _, h2 g h3 h4⟩
    | s => obtain ⟨z, b0, b1, v, _, _, _, h2⟩ := h; exact ⟨_, _, h2⟩
    | r v => obtain ⟨_, _, h2⟩ := h; exact ⟨_, _, h2⟩
    | c v => exact ⟨_, _, h.2⟩
    | x => obtain ⟨W, hW⟩ := hU.real w; obtain ⟨v, W', U', _, _, _, h4⟩ := h.2.2 W hW; exact ⟨_, _, h4⟩
  induction f with
  | zero =>
    intro done a U inv hU _ _ hr H
    refine ⟨fun h => (by rw [h] at hr; cases hr), fun j hj => ⟨low done inv hr j hj, ?_⟩⟩
    rcases Nat.decEq j i with hji | hji
    · obtain ⟨a', U', hl⟩ := some_one hU H
      have := hL _ _ _ hl j (ready_mono hj hji)
      have := low done inv hr j hj
      omega
    · subst hji; exact ⟨oi, hi, H⟩
  | succ f ih =>
    intro done a U inv hU hd hfree hr H
    refine ⟨fun h => (by rw [h] at hr; cases hr), fun j hj => ⟨low done inv hr j hj, ?_⟩⟩
    rcases Nat.decEq j i with hji | hji
    · obtain ⟨hjun, oj, hoj, hall⟩ := mem_ready.1 hj
      have hun := (mem_ready.1 hr).1
      have hnot : ∀ e ∈ oj.after, Region.binds md e = true → e.on ≠ i := fun e he hb heq => by
        have h1 := hall e he hb
        rw [heq, getD_both hun] at h1
        cases h1
      have hap := hfree j oj hoj hji hjun hnot
      have back : ∀ k, (done.setIfInBounds j true).getD k true = false → done.getD k true = false := fun k hk => by
        rcases Nat.decEq j k with hjk | hjk
        · rw [getD_set_ne true hjk] at hk; exact hk
        · subst hjk; exact hjun
      have hij : i < j := by
        rcases Nat.lt_or_ge i j with h | h
        · exact h
        · have := hd j (by omega)
          rw [hjun] at this
          cases this
      have hjN := low done inv hr j hj
      have hne : needX (kd i) (kd j) = false := by
        cases hq : needX (kd i) (kd j) with
        | false => rfl
        | true => exact absurd hj (reach_waits inv (edgesX_spec hE hjN hij hq) hun)
      refine ⟨oj, hoj, ?_⟩
      have H2 : EffX P ops Z w oi a U (fun a1 U1 => EffX P ops Z w oj a1 U1 (HeadX P md ops Z w kd N L f ((done.setIfInBounds j true).setIfInBounds i true)) (kd j)) (kd i) := H.mono fun a1 U1 h => by
        obtain ⟨_, oj', hoj', hh⟩ := h.2 j (ready_mono hj hji)
        obtain rfl : oj = oj' := Option.some.inj (hoj.symm.trans hoj')
        rw [Array.setIfInBounds_comm _ _ hji]
        exact hh
      have H3 := EffX.fin hU (EffX.comm hne (fun cs b => hsel i oi cs b hi) (fun cs b => hsel j oj cs b hoj) hap hU H2)
      refine H3.mono fun a2 U2 ⟨hf2, h2⟩ => ih _ a2 U2 (inv.set hj hjN) hf2 (fun k hk => by rw [getD_set_ne true (by omega)]; exact hd k hk) (fun k ok hk hki hun' hno => hfree k ok hk hki (back k hun') hno) (ready_mono hr (Ne.symm hji)) h2
    · subst hji; exact ⟨oi, hi, H⟩

/-- The walk in the text's order. -/
def wpUX (P : Program) (ops : Array Oper) (Z : Nat → Prop) (w : World) (kd : Nat → KdX) (R : Act → Ov → Prop) : Nat → List Oper → Act → Ov → Prop
  | _, [], a, U => R a U
  | k, o :: os, a, U => EffX P ops Z w o a U (wpUX P ops Z w kd R (k + 1) os) (kd k)
theorem HeadX.lex {g : Nat} {R : Act → Ov → Prop} (hsel : Region.noSelect ops = true) (hE : edgesX md ops kd N = true) (hs : Region.sinkB md ops N = true) (hc : Region.chainB md ops N = true) (hn : N < ops.size) (l : List Oper) :
    ∀ (k : Nat) (done : Array Bool) (a : Act) (U : Ov), (∀ j, j < l.length → l[j]? = ops[k + j]?) → k + l.length = N → HeadInv md ops N done → (∀ j, j < k → done.getD j true = true) → U.fin →
      Region.lexHead md ops g l.length k done = true → wpUX P ops Z w kd R k l a U →
      HeadX P md ops Z w kd N (fun done' a' U' => Region.seqB md ops g N done' = true ∧ R a' U') l.length done a U := by
  induction l with
  | nil =>
    intro k done a U _ hk _ _ _ hB h
    obtain rfl : k = N := by simpa using hk
    exact ⟨by simpa [Region.lexHead] using hB, h⟩
  | cons o l ih =>
    intro k done a U hl hk inv hd hU hB h
    have h0 : ops[k]? = some o := by simpa using (hl 0 (by simp)).symm
    simp only [List.length_cons] at hk hB ⊢
    rw [Region.lexHead, Bool.and_eq_true, Bool.and_eq_true] at hB
    obtain ⟨⟨hr, hf⟩, hB'⟩ := hB
    have hr' : k ∈ Region.ready md ops done := by simpa using hr
    have hd' : ∀ j, j < k + 1 → (done.setIfInBounds k true).getD j true = true := fun j hj => by
      rcases Nat.decEq k j with hkj | hkj
      · rw [getD_set_ne true hkj]; exact hd j (by omega)
      · subst hkj
        have hks : k < done.size := by rw [inv.size]; omega
        simp [hks]
    refine HeadX.first h0 (by omega) (Region.noSelect_spec hsel) hE hs hc hn (fun done' a' U' hL => seqB_ready hL.1) l.length done a U inv hU hd (Region.free_spec h0 hf) hr' ?_
    exact (EffX.fin hU h).mono fun a' U' ⟨hf', h'⟩ => ih (k + 1) _ a' U' (fun j hj => by have := hl (j + 1) (by simp; omega); simpa [Nat.add_assoc, Nat.add_comm 1 j] using this) (by omega) (inv.set hr' (by omega)) hd' hf' hB' h'

/-- **A drawn region**, walked in the text's order. -/
theorem wp_region_uniX {id : Nat} {Q : Exit → Act → World → Prop} {a : Act} {l : List Oper} (N : Nat) (kd : Nat → KdX) (U : Ov) (hU : U.fin) (hok : U.ok w w) (hI : U.inv Z w) (hm : P.follows .mixedOrders = true) (hB : Region.lexTailB .any l.toArray N = true) (hE : edgesX .any l.toArray kd N = true)
    (h : wpUX P l.toArray Z w kd (fun a' U' => ∀ W, U'.ok w W → wpList P l.toArray Q (l.drop N) a' W) 0 (l.take N) a U) : (Code.region id l.toArray true).wp P Q a w := by
  simp only [Region.lexTailB, Bool.and_eq_true, decide_eq_true_eq] at hB
  obtain ⟨⟨⟨⟨hsel, hn⟩, hs⟩, hc⟩, hlex⟩ := hB
  have hn' : N < l.length := by simpa using hn
  have htl : (l.take N).length = N := by simp; omega
  have hdl : (l.drop N).length = l.toArray.size - N := by simp
  have start : HeadInv .any l.toArray N (Array.replicate l.toArray.size false) := by
    constructor
    · simp
    · intro j oj _ hl; rw [getD_replicate_false] at hl; cases hl
    · intro t _ ht; exact getD_in (by simpa using ht) (getD_replicate_false _ _)
  have H := HeadX.lex (P := P) (w := w) (md := .any) (kd := kd) (N := N) (g := l.toArray.size - N) (R := fun a' U' => ∀ W, U'.ok w W → wpList P l.toArray Q (l.drop N) a' W) hsel hE hs hc hn (l.take N) 0 _ a U
    (fun j hj => by rw [htl] at hj; simp [hj]) (by rw [htl]; omega) start (fun j hj => by omega) hU (by rw [htl]; exact hlex) h
  rw [htl] at H
  refine wp_region_any hm ?_
  have := HeadX.any (Q := Q) (g := l.toArray.size - N) (fun done a' U' W hW hL => by
    have := wpAny_of_seq (md := .any) (Q' := Q) (l.drop N) N done a' W (fun j => by simp [List.getElem?_drop]) (by rw [hdl]; exact hL.1) (hL.2 W hW)
    rwa [hdl] at this) _ _ _ _ _ (show Ov.ok U w { w with drawn := w.drawn + 1 } from ⟨(Below.refl 0 w).drew, hok.keep, hok.has⟩) hI H
  rwa [show N + (l.toArray.size - N) = l.toArray.size by omega] at this
end

/-- A further block M, of any kind, that stays as it is. -/
structure Hm (w0 w : World) (M : Nat) (ob : Obj) (l : Ents) : Prop where
  hp : Hp w0 w l
  mp : w.heap[M]? = some ob
  out : ∀ x ∈ l, x.1 ≠ M
section
variable {P : Program} {ops : Array Oper} {rest : List Oper} {o : Oper} {a : Act} {w0 w : World} {l l' : Ents} {Q : Exit → Act → World → Prop} {kd : Nat → KdX} {k : Nat} {R : Act → Ents → Prop} {M : Nat} {ob : Obj}
theorem Hm.lt (h : Hm w0 w M ob l) : M < w.heap.size := (Array.getElem?_eq_some_iff.1 h.mp).1
/-- The walk over the list of blocks. -/
def wpX (P : Program) (ops : Array Oper) (w0 w : World) (kd : Nat → KdX) (R : Act → Ents → Prop) : Nat → List Oper → Act → Ents → Prop
  | _, [], a, l => R a l
  | k, o :: os, a, l =>
    (kd k = .q ∧ ∃ v, (Region.wanted o (yielded ops a.tmps) = true ∧ ∀ W, Hid (Hp w0 W l) → keepsAt P o a W v) ∧ wpX P ops w0 w kd R (k + 1) os (a.put o.dst v) l) ∨
    (∃ v, kd k = .c v ∧ YieldsC P ops o v a ∧ wpX P ops w0 w kd R (k + 1) os (a.put o.dst v) l) ∨
    (kd k = .a ∧ ∃ mk t cs, AllocsAt P ops o a mk (.cells cs.toArray t (0, 0)) ∧ ∀ g, wpX P ops w0 w kd R (k + 1) os (a.put o.dst (mk g)) ((g, t, cs) :: l)) ∨
    (kd k = .x ∧ Region.wanted o (yielded ops a.tmps) = true ∧ ∀ W, Hid (Hp w0 W l) → ∃ v W' l' z, (execOp a.eval o).run P W = .ok (.value v) W' ∧ Hp w0 W' l' ∧ Chg W W' l l' z ∧ wpX P ops w0 w kd R (k + 1) os (a.put o.dst v) l')
/-- The list is a view of what is known. -/
structure VwX (w0 w : World) (M : Nat) (U : Ov) (l : Ents) : Prop where
  nd : (l.map (·.1)).Nodup
  at_ : ∀ x ∈ l, U x.1 = some (.cells x.2.2.toArray x.2.1 (0, 0))
  lo : ∀ k b, U k = some b → w0.heap.size ≤ k ∧ k ≠ M
theorem VwX.hp {U : Ov} {W : World} (h : Hp w0 w l) (v : VwX w0 w M U l') (hok : U.ok w W) : Hp w0 W l' :=
  ⟨fun x hx => ⟨(v.lo _ _ (v.at_ x hx)).1, hok.has _ _ (v.at_ x hx)⟩, v.nd, h.bel.trans ⟨hok.all.os, hok.all.tape, hok.all.output, hok.all.size, fun k hk => hok.keep k (Nat.lt_of_lt_of_le hk h.bel.size) (by
    cases hu : U k with
    | none => rfl
    | some b =>
      have := (v.lo k b hu).1
      omega)⟩, h.t0⟩
theorem wpX_nil (h : R a l) : wpX P ops w0 w kd R k [] a l := h
theorem wpX_C {v : Value} (hp : kd k = .q) (hg : Region.wanted o (yielded ops a.tmps) = true) (hr : ∀ W, Hid (Hp w0 W l) → keepsAt P o a W v) (h : wpX P ops w0 w kd R (k + 1) rest (a.put o.dst v) l) : wpX P ops w0 w kd R k (o :: rest) a l :=
  .inl ⟨hp, v, ⟨hg, hr⟩, h⟩
theorem wpX_q {v : Value} (hp : kd k = .q) (hg : Region.wanted o (yielded ops a.tmps) = true) (hr : ∀ W, (execOp a.eval o).run P W = .ok (.value v) W) (h : wpX P ops w0 w kd R (k + 1) rest (a.put o.dst v) l) : wpX P ops w0 w kd R k (o :: rest) a l :=
  wpX_C hp hg (fun W _ => by unfold keepsAt; rw [hr W]; exact ⟨rfl, rfl⟩) h
theorem wpX_c {v : Value} (hp : kd k = .c v) (hg : Region.wanted o (yielded ops a.tmps) = true) (hr : ∀ W, (execOp a.eval o).run P W = .ok (.value v) W) (h : wpX P ops w0 w kd R (k + 1) rest (a.put o.dst v) l) : wpX P ops w0 w kd R k (o :: rest) a l :=
  .inr (.inl ⟨v, hp, ⟨hg, fun W => by unfold keepsAt; rw [hr W]; exact ⟨rfl, rfl⟩⟩, h⟩)
theorem wpX_load {t T : TypeId} {p : Operand} {b j n : Nat} {cs ds : List Value} (hk : kd k = .q) (ho : o.op = .load t p) (hg : Region.wanted o (yielded ops a.tmps) = true) (hT : RowT P t n) (hp : a.eval p = .pointer (some ⟨b, j, none⟩))
    (hm : (b, T, cs) ∈ l) (hx : (cs.drop j).take n = ds) (hl : ds.length = n) (h : wpX P ops w0 w kd R (k + 1) rest (a.put o.dst (.agg ds.toArray)) l) : wpX P ops w0 w kd R k (o :: rest) a l :=
  wpX_C hk hg (fun W hW => by
    have hr := run_loadB (P := P) (t := t) (k := j) (hW.out.get hm) hT (by simpa using hx) hl
    unfold keepsAt execOp
    simp only [ho, hp, hr, Sem.run_bind, Sem.run_pure, Result.andThen_ok]
    exact ⟨rfl, rfl⟩) h
theorem wpX_load1 {t T : TypeId} {p : Operand} {b j : Nat} {cs : List Value} {v : Value} (hk : kd k = .q) (ho : o.op = .load t p) (hg : Region.wanted o (yielded ops a.tmps) = true) (hT : ∃ d, P.underlying t = some d ∧ d.isRow = false) (hp : a.eval p = .pointer (some ⟨b, j, none⟩))
    (hm : (b, T, cs) ∈ l) (hx : cs[j]? = some v) (h : wpX P ops w0 w kd R (k + 1) rest (a.put o.dst v) l) : wpX P ops w0 w kd R k (o :: rest) a l :=
  wpX_C hk hg (fun W hW => by
    have hr := run_loadC (P := P) (t := t) (k := j) hT (hW.out.get hm).out (by simpa using hx)
    unfold keepsAt execOp
    simp only [ho, hp, hr, Sem.run_bind, Sem.run_pure, Result.andThen_ok]
    exact ⟨rfl, rfl⟩) h
theorem wpX_V (t : TypeId) (cs : List Value) (n : Nat) (hp : kd k = .a) (hg : o.guard = none) (hr : ∀ W : World, (execOp a.eval o).run P W = .ok (.value (.slice (some ⟨W.heap.size, 0, none⟩) n n)) (W.alloc (.cells cs.toArray t)))
    (h : ∀ g, wpX P ops w0 w kd R (k + 1) rest (a.put o.dst (.slice (some ⟨g, 0, none⟩) n n)) ((g, t, cs) :: l)) : wpX P ops w0 w kd R k (o :: rest) a l :=
  .inr (.inr (.inl ⟨hp, fun g => .slice (some ⟨g, 0, none⟩) n n, t, cs, ⟨by simp [Region.wanted, hg], hr⟩, h⟩))
/-- append -/
theorem wpX_app {size bytes b m c n : Nat} {t e e2 : TypeId} {v : Value} {xs cur news : List Value} (X T : Ents) (hp : kd k = .x) (R0 : Hid (RowV size v n xs cur)) (hl : l = X ++ (rowE v e cur ++ T)) (I : InfoT P e size bytes) (hsz : 0 < size) (ht : P.underlying t = some (.slice e)) (hgd : o.guard = none) {s x : Operand}
    (ho : o.op = .call { callee := .builtin .append, args := #[s, x], argTypes := #[t, t] }) (hs : a.eval s = v) (hx : a.eval x = .slice (some ⟨b, 0, none⟩) m c) (hm : (b, e2, news) ∈ l) (hn : news.length = m * size) (h1 : news.all (·.oneCell') = true) (h0 : 0 < m) (h63 : n + m ≤ maxLen) (hb : (n + m) * bytes ≤ 140737488355328)
    (hK : ∀ v' cur', Hid (RowV size v' (n + m) (xs ++ news) cur') → wpX P ops w0 w kd R (k + 1) rest (a.put o.dst v') (X ++ (rowE v' e cur' ++ T))) : wpX P ops w0 w kd R k (o :: rest) a l := by
  subst hl
  obtain ⟨i, z, hi, hz, rfl, rfl, hzs⟩ := I.h
  refine .inr (.inr (.inr ⟨hp, by simp [Region.wanted, hgd], fun W H => ?_⟩))
  have hk := (H.out.get hm).out
  obtain ⟨v', cur', w', hr, h2, h3, g, h4⟩ := run_append_H (P := P) t o.type i z ht hi hz hzs hsz H.out R0.out b m c news hn (fun j u hu => by rw [hk.cell]; simpa using hu) (fun u hu => List.all_eq_true.1 h1 u hu) h0 h63 hb
  refine ⟨v', w', _, g, ?_, h3, h4, hK v' cur' (Lib.hid h2)⟩
  unfold execOp
  simp only [ho, resolve, invoke, builtin, Sem.run_bind, Sem.run_pure, Result.andThen_ok, List.map_toArray, List.map_cons, List.map_nil, hs, hx, hr]
theorem wpUX_of (h0 : Hp w0 w l) (hM : M < w.heap.size) {R' : Act → Ov → Prop} (os : List Oper) : ∀ (k : Nat) (a : Act) (l1 : Ents) (U : Ov), VwX w0 w M U l1 → U.fin →
    (∀ a' l2 U2, VwX w0 w M U2 l2 → R a' l2 → R' a' U2) → wpX P ops w0 w kd R k os a l1 → wpUX P ops (fun _ => True) w kd R' k os a U := by
  induction os with
  | nil => intro k a l1 U hv _ hR h; exact hR a l1 U hv h
  | cons o os ih =>
    intro k a l1 U hv hf hR h
    show EffX P ops (fun _ => True) w o a U (wpUX P ops (fun _ => True) w kd R' (k + 1) os) (kd k)
    rcases h with ⟨hp, v, hy, hK⟩ | ⟨v, hp, hy, hK⟩ | ⟨hp, mk, t, cs, hA, hK⟩ | ⟨hp, hg, hX⟩
    · rw [hp]
      exact ⟨v, .inl ⟨hy.1, fun W hW => hy.2 W (Lib.hid (hv.hp h0 hW))⟩, ih _ _ _ _ hv hf hR hK⟩
    · rw [hp]
      exact ⟨hy, ih _ _ _ _ hv hf hR hK⟩
    · rw [hp]
      refine ⟨mk, _, hA, fun g hg hu => ih _ _ ((g, t, cs) :: l1) _ ⟨?_, fun x hx => ?_, fun k b hb => ?_⟩ (hf.put _ _) hR (hK g)⟩
      · rw [List.map_cons, List.nodup_cons]
        refine ⟨fun hm => ?_, hv.nd⟩
        obtain ⟨x, hx, he⟩ := List.mem_map.1 hm
        have := hv.at_ x hx
        rw [he, hu] at this
        cases this
      · rcases List.mem_cons.1 hx with rfl | hx
        · exact Ov.put_same _ _ _
        · have := hv.at_ x hx
          rw [Ov.put_ne _ _ (fun e => by rw [e, hu] at this; cases this)]
          exact this
      · by_cases e : k = g
        · subst e
          exact ⟨Nat.le_trans h0.bel.size hg, by omega⟩
        · rw [Ov.put_ne _ _ e] at hb
          exact hv.lo k b hb
    · rw [hp]
      refine ⟨fun _ => trivial, hg, fun W hW => ?_⟩
      obtain ⟨v, W', l2, z, hr, h2, h3, hK⟩ := hX W (Lib.hid (hv.hp h0 hW))
      obtain ⟨bz, hz⟩ : ∃ bz, W'.heap[z]? = some bz := ⟨_, Array.getElem?_eq_getElem h3.lt⟩
      have hz0 : w0.heap.size ≤ z ∧ z ≠ M := by
        rcases h3.old with e | ⟨x, hx, rfl⟩
        · have := hW.all.size
          have := h0.bel.size
          omega
        · exact hv.lo _ _ (hv.at_ x hx)
      refine ⟨v, W', U.put z bz, hr, ⟨hW.all.trans h3.all, fun k hk hu => ?_, fun k b hu => ?_⟩, hf.put _ _, ih _ _ l2 _ ⟨h2.nd, fun x hx => ?_, fun k b hb => ?_⟩ (hf.put _ _) hR hK⟩
      · have e : k ≠ z := fun e => by rw [e, Ov.put_same] at hu; cases hu
        rw [Ov.put_ne _ _ e] at hu
        exact (h3.keep k (Nat.lt_of_lt_of_le hk hW.all.size) e).trans (hW.keep k hk hu)
      · by_cases e : k = z
        · subst e
          rw [Ov.put_same] at hu
          injection hu with hu
          rw [hz, hu]
        · rw [Ov.put_ne _ _ e] at hu
          have := hW.has k b hu
          exact (h3.keep k (Array.getElem?_eq_some_iff.1 this).1 e).trans this
      · by_cases e : x.1 = z
        · subst e
          rw [Ov.put_same, ← hz]
          exact (h2.blk x hx).2
        · rw [Ov.put_ne _ _ e]
          exact hv.at_ x (h3.sub x hx e)
      · by_cases e : k = z
        · subst e; exact hz0
        · rw [Ov.put_ne _ _ e] at hb
          exact hv.lo k b hb
theorem wp_region_X {id : Nat} {ol : List Oper} (N : Nat) (ks : List KdX) (H : Hid (Hm w0 w M ob l)) (hm : P.follows .mixedOrders = true) (hB : Region.lexTailB .any ol.toArray N = true) (hE : edgesX .any ol.toArray (fun k => ks.getD k .q) N = true)
    (h : wpX P ol.toArray w0 w (fun k => ks.getD k .q) (fun a'' l' => ∀ W, Hid (Hm w0 W M ob l') → wpList P ol.toArray Q (ol.drop N) a'' W) 0 (ol.take N) a l) : (Code.region id ol.toArray true).wp P Q a w := by
  have hp := H.out.hp
  have hok : (ovOf l).ok w w := ⟨Below.refl 0 w, fun _ _ _ => rfl, fun k b hu => by
    obtain ⟨x, hx, rfl, rfl⟩ := ovOf_mem_b hp.nd hu
    exact (hp.blk x hx).2⟩
  have hv : VwX w0 w M (ovOf l) l := ⟨hp.nd, fun x hx => ovOf_mem hp.nd hx, fun k b hu => by
    obtain ⟨x, hx, rfl, _⟩ := ovOf_mem_b hp.nd hu
    exact ⟨(hp.blk x hx).1, H.out.out x hx⟩⟩
  have hf : (ovOf l).fin := ⟨w.heap.size, fun g b hu => by
    obtain ⟨x, hx, rfl, _⟩ := ovOf_mem_b hp.nd hu
    exact hp.lt hx⟩
  refine wp_region_uniX N _ (ovOf l) hf hok (fun _ _ _ h _ => absurd trivial h) hm hB hE ?_
  refine wpUX_of hp H.out.lt _ 0 a l _ hv hf (fun a'' l2 U2 hv2 hR W hW => hR W (Lib.hid ⟨hv2.hp hp hW, ?_, fun x hx => (hv2.lo _ _ (hv2.at_ x hx)).2⟩)) h
  have : U2 M = none := by
    cases hu : U2 M with
    | none => rfl
    | some b => exact absurd rfl (hv2.lo M b hu).2
  exact (hW.keep M H.out.lt this).trans H.out.mp
end
end Go.Proofs.Ythepafendopfhaa

namespace Go.Proofs.Ythepafendopfhaa
open Go.RowKit
set_option linter.unusedVariables false
set_option maxRecDepth 100000

theorem InfoT.of {P : Program} {e : TypeId} {size bytes : Nat} {z : Value} (h1 : (P.info? e).bind (·.zero) = some z) (h2 : (P.info? e).map (fun i => (i.size, i.bytes)) = some (size, bytes)) (h3 : z.cells.size = size) : InfoT P e size bytes := by
  cases hi : P.info? e with
  | none => simp [hi] at h1
  | some i =>
    simp [hi] at h1 h2
    exact ⟨i, z, hi, h1, h2.1, h2.2, h3⟩
theorem RowV.shape {k n : Nat} {v : Value} {xs cur : List Value} (h : RowV k v n xs cur) : ∃ B c, v = .slice B n c ∧ c ≤ maxLen := by
  rcases h.or_ with ⟨rfl, rfl⟩ | ⟨g, cap, rfl, _, h2, _⟩
  · exact ⟨none, 0, rfl, by simp [maxLen]⟩
  · exact ⟨_, _, rfl, h2⟩
theorem RowV.len_ {α : Type} {enc : α → List Value} {k n : Nat} {v : Value} {xs : List α} {cur : List Value} (hk : ∀ x, (enc x).length = k) (h : RowV k v n (flat enc xs) cur) (hp : 0 < k) : xs.length = n :=
  Nat.eq_of_mul_eq_mul_right hp (by rw [← flat_len hk xs]; exact h.len)
theorem flat_snoc {α : Type} {enc : α → List Value} {xs : List α} {j : Nat} {x : α} (h : xs[j]? = some x) : flat enc (xs.take (j + 1)) = flat enc (xs.take j) ++ enc x := by
  obtain ⟨hj, rfl⟩ := List.getElem?_eq_some_iff.1 h
  rw [List.take_succ_eq_append_getElem hj, flat_append, flat_one]
section
variable {w0 w w' : World} {l l' : Ents} {M : Nat} {ob : Obj}
theorem Hm.go (h : Hm w0 w M ob l) (hb : Below w.heap.size w w') : Hm w0 w' M ob l := ⟨h.hp.go hb, (hb.block M h.lt).trans h.mp, h.out⟩
theorem Hm.perm (h : Hm w0 w M ob l) (hp : l.Perm l') : Hm w0 w M ob l' := ⟨h.hp.perm hp, h.mp, fun x hx => h.out x (hp.mem_iff.2 hx)⟩
theorem Hm.sub (h : Hm w0 w M ob l) (hs : l'.Sublist l) : Hm w0 w M ob l' := ⟨h.hp.sub hs, h.mp, fun x hx => h.out x (hs.subset hx)⟩
theorem Hm.drop {x : Nat × TypeId × List Value} (h : Hm w0 w M ob (x :: l)) : Hm w0 w M ob l := ⟨h.hp.drop, h.mp, fun y hy => h.out y (.tail _ hy)⟩
theorem Hm.fresh (h : Hm w0 w M ob l) (hb : Below w.heap.size w w') {b : Nat} {t : TypeId} {cs : List Value} (hg : w.heap.size ≤ b) (hk : Blk w' b t cs.toArray) : Hm w0 w' M ob ((b, t, cs) :: l) :=
  ⟨h.hp.fresh hb hg hk, (hb.block M h.lt).trans h.mp, fun x hx => by
    rcases List.mem_cons.1 hx with rfl | hx
    · have := h.lt
      exact fun e => by simp only at e; omega
    · exact h.out x hx⟩
theorem Hm.stored {b : Nat} {T : TypeId} {cs ds : List Value} (h : Hm w0 w M ob l) (hu : Upd l b T cs ds l') (hz : BelowZ b w w') (hk : Blk w' b T ds.toArray) : Hm w0 w' M ob l' :=
  ⟨h.hp.stored hu hz hk, (hz.block M h.lt (fun e => h.out _ hu.mem e.symm)).trans h.mp, hu.all (p := fun x => x.1 ≠ M) (q := fun x => x.1 ≠ M) h.hp.nd (fun _ _ _ h => h) (show b ≠ M from h.out (b, T, cs) hu.mem) h.out⟩
theorem Hm.chg {z : Nat} (h : Hm w0 w M ob l) (h2 : Hp w0 w' l') (c : Chg w w' l l' z) : Hm w0 w' M ob l' :=
  have hz : z ≠ M := by
    rcases c.old with e | ⟨x, hx, e⟩
    · have := h.lt
      omega
    · rw [← e]; exact h.out x hx
  ⟨h2, (c.keep M h.lt (Ne.symm hz)).trans h.mp, fun x hx e => h.out x (c.sub x hx (by rw [e]; exact Ne.symm hz)) e⟩
/-- What a call has made joins what its caller has. -/
theorem Hp.join {m : Ents} (h : Hp w0 w l) (h2 : Hp w w' m) : Hp w0 w' (m ++ l) := by
  have h3 := h.go h2.bel
  refine ⟨fun x hx => ?_, ?_, h3.bel, h.t0⟩
  · rcases List.mem_append.1 hx with hx | hx
    · exact ⟨Nat.le_trans h.bel.size (h2.blk x hx).1, (h2.blk x hx).2⟩
    · exact h3.blk x hx
  · rw [List.map_append, List.nodup_append]
    refine ⟨h2.nd, h.nd, fun a ha b hb e => ?_⟩
    obtain ⟨x, hx, rfl⟩ := List.mem_map.1 ha
    obtain ⟨y, hy, rfl⟩ := List.mem_map.1 hb
    have := (h2.blk x hx).1
    have := h.lt hy
    omega
end
section
variable {P : Program} {ops : Array Oper} {rest : List Oper} {o : Oper} {a a2 : Act} {w0 w : World} {l l' : Ents} {Q : Exit → Act → World → Prop} {M : Nat} {ob : Obj}
theorem okI {x y : Int} {W : World} (h : x = y) : Result.ok (Next.value (.int .i64 x)) W = Result.ok (Next.value (.int .i64 y)) W := by rw [h]
theorem isSlc {d : Option Tmp} {ty : TypeId} {po : String} {af : Array Edge} {g : Option (Nat × Bool)} {t : TypeId} {n : Nat} {ps : Array (Nat × Operand)} (h : wpList P ops Q (⟨d, .buildSlice t n ps, ty, po, af, g⟩ :: rest) a w) : wpList P ops Q (⟨d, .buildSlice t n ps, ty, po, af, g⟩ :: rest) a w := h
theorem isApp {d : Option Tmp} {ty : TypeId} {po : String} {af : Array Edge} {g : Option (Nat × Bool)} {c : Array Operand} {ts : Array TypeId} (h : wpList P ops Q (⟨d, .call { callee := .builtin .append, args := c, argTypes := ts }, ty, po, af, g⟩ :: rest) a w) : wpList P ops Q (⟨d, .call { callee := .builtin .append, args := c, argTypes := ts }, ty, po, af, g⟩ :: rest) a w := h
theorem stM (H : Hid (Hm w0 w M ob l)) {t T : TypeId} {p x : Operand} {b k n : Nat} {cs vs ds : List Value} (hK : ∀ W', Hid (Hm w0 W' M ob l') → wpList P ops Q rest a W') (ho : o.op = .store t p x := by rfl) (hT : RowT P t n := by assumption) (hg : o.guard = none := by rfl) (hd : o.dst = none := by rfl) (hp : a.eval p = .pointer (some ⟨b, k, none⟩) := by rfl) (hx : a.eval x = .agg vs.toArray := by rfl)
    (hu : Upd l b T cs ds l' := by repeat (first | apply Upd.head | apply Upd.tail | assumption)) (hl : vs.length = n := by rfl) (hc : cs.take k ++ vs ++ cs.drop (k + n) = ds := by (simp only [List.drop, List.take, List.nil_append, List.cons_append]; rfl)) (hk : k + n ≤ cs.length := by exact Nat.le_of_ble_eq_true rfl) (h1 : vs.all (·.oneCell') = true := by rfl) : wpList P ops Q (o :: rest) a w :=
  wpList_storeB ho hg hd hT hp hx (H.out.hp.get hu.mem) hl (by simpa using hk) h1 (by simpa using hc) fun W' hz hb => hK W' (Lib.hid (H.out.stored hu hz hb.out))
theorem st1M (H : Hid (Hm w0 w M ob l)) {t T : TypeId} {p x : Operand} {b k : Nat} {cs ds : List Value} {v : Value} (hK : ∀ W', Hid (Hm w0 W' M ob l') → wpList P ops Q rest a W') (ho : o.op = .store t p x := by rfl) (hT : (P.info? t).map (·.size) = some 1 := by assumption) (hg : o.guard = none := by rfl) (hd : o.dst = none := by rfl) (hp : a.eval p = .pointer (some ⟨b, k, none⟩) := by rfl) (hx : a.eval x = v := by rfl)
    (hu : Upd l b T cs ds l' := by repeat (first | apply Upd.head | apply Upd.tail | assumption)) (hc : cs.set k v = ds := by (simp only [List.set_cons_succ, List.set_cons_zero]; rfl)) (hk : k < cs.length := by exact Nat.le_of_ble_eq_true rfl) (h1 : v.oneCell' = true := by rfl) (hv : v.cells = #[v] := by rfl) : wpList P ops Q (o :: rest) a w :=
  wpList_storeC ho hg hd hT hp hx (H.out.hp.get hu.mem) (by simpa using hk) h1 hv (by simpa using hc) fun W' hz hb => hK W' (Lib.hid (H.out.stored hu hz hb.out))
theorem bxM (H : Hid (Hm w0 w M ob l)) {t : TypeId} {x : Operand} {d : Tmp} {v : Value} {cs : List Value} {a3 : Nat → Act} (hK : ∀ (b : Nat) W', Hid (Hm w0 W' M ob ((b, t, cs) :: l)) → wpList P ops Q rest (a3 b) W') (ho : o.op = .box t x := by rfl) (hg : o.guard = none := by rfl) (hd : o.dst = some d := by rfl) (hx : a.eval x = v := by (go_simp; rfl)) (hc : v.cells = cs.toArray := by (simp only [Value.cells]; rfl))
    (hn : ∀ b, a.put (some d) (.pointer (some ⟨b, 0, none⟩)) = a3 b := by (intro b; simp only [Act.put, List.setIfInBounds_toArray, List.set_cons_succ, List.set_cons_zero]; rfl)) : wpList P ops Q (o :: rest) a w :=
  wpList_newB (cs := cs) (t := t) hg hd (fun W => by
    unfold execOp
    simp only [ho, hx]
    simp [go_sem]
    show W.alloc (.cells v.cells t) = _
    rw [hc]) fun b W' h1 h2 h3 => by rw [hn]; exact hK b W' (Lib.hid (H.out.fresh h2 h1 h3.out))
theorem alM (H : Hid (Hm w0 w M ob l)) {t : TypeId} {d : Tmp} {z : Value} {cs : List Value} {a3 : Nat → Act} (hK : ∀ (b : Nat) W', Hid (Hm w0 W' M ob ((b, t, cs) :: l)) → wpList P ops Q rest (a3 b) W') (ho : o.op = .alloc t := by rfl) (hz : (P.info? t).bind (·.zero) = some z := by assumption) (hg : o.guard = none := by rfl) (hd : o.dst = some d := by rfl) (hc : z.cells = cs.toArray := by (simp only [Value.cells]; rfl))
    (hn : ∀ b, a.put (some d) (.pointer (some ⟨b, 0, none⟩)) = a3 b := by (intro b; simp only [Act.put, List.setIfInBounds_toArray, List.set_cons_succ, List.set_cons_zero]; rfl)) : wpList P ops Q (o :: rest) a w := by
  have hi : ∃ i, P.info? t = some i ∧ i.zero = some z := by
    cases hq : P.info? t with
    | none => simp [hq] at hz
    | some i => exact ⟨i, rfl, by simpa [hq] using hz⟩
  obtain ⟨i, hi1, hi2⟩ := hi
  exact wpList_newB (cs := cs) (t := t) hg hd (fun W => by
    unfold execOp
    simp only [ho]
    simp [go_sem, zeroValue, typeInfo, hi1, hi2]
    show W.alloc (.cells z.cells t) = _
    rw [hc]) fun b W' h1 h2 h3 => by rw [hn]; exact hK b W' (Lib.hid (H.out.fresh h2 h1 h3.out))
/-- A literal slice. -/
theorem bsM (t : TypeId) (cs : List Value) (n : Nat) (H : Hid (Hm w0 w M ob l)) {d : Tmp} {a3 : Nat → Act} (hK : ∀ (b : Nat) W', Hid (Hm w0 W' M ob ((b, t, cs) :: l)) → wpList P ops Q rest (a3 b) W') (hg : o.guard = none := by rfl) (hd : o.dst = some d := by rfl)
    (hr : ∀ W : World, (execOp a.eval o).run P W = .ok (.value (.slice (some ⟨W.heap.size, 0, none⟩) n n)) (W.alloc (.cells cs.toArray t)) := by intro W; kernel_rfl)
    (hn : ∀ b, a.put (some d) (.slice (some ⟨b, 0, none⟩) n n) = a3 b := by (intro b; simp only [Act.put, List.setIfInBounds_toArray, List.set_cons_succ, List.set_cons_zero]; rfl)) : wpList P ops Q (o :: rest) a w := by
  unfold wpList
  rw [if_pos (by simp [Region.wanted, hg])]
  refine .inl ?_
  unfold Oper.wp
  rw [hr, Oper.upon_value, hd, hn]
  exact hK _ _ (Lib.hid (H.out.fresh ((Below.refl _ _).alloc (Nat.le_refl _) _) (Nat.le_refl _) (Blk.new _ _ _)))
/-- append of a literal to a slice of the call's own -/
theorem apM {size bytes b m c n : Nat} {t e e2 : TypeId} {v : Value} {xs cur news : List Value} (X T : Ents) (H : Hid (Hm w0 w M ob l)) (R : Hid (RowV size v n xs cur)) (I : InfoT P e size bytes) (hsz : 0 < size) (ht : P.underlying t = some (.slice e)) {s x : Operand}
    (hK : ∀ v' cur' W', Hid (RowV size v' (n + m) (xs ++ news) cur') → Hid (Hm w0 W' M ob (X ++ (rowE v' e cur' ++ T))) → wpList P ops Q rest (a.put o.dst v') W')
    (hm : (b, e2, news) ∈ l) (hn : news.length = m * size) (h1 : news.all (·.oneCell') = true) (h0 : 0 < m) (h63 : n + m ≤ maxLen) (hb : (n + m) * bytes ≤ 140737488355328)
    (hl : l = X ++ (rowE v e cur ++ T) := by rfl) (hgd : o.guard = none := by rfl) (ho : o.op = .call { callee := .builtin .append, args := #[s, x], argTypes := #[t, t] } := by rfl) (hs : a.eval s = v := by rfl) (hx : a.eval x = .slice (some ⟨b, 0, none⟩) m c := by rfl) : wpList P ops Q (o :: rest) a w := by
  subst hl
  obtain ⟨i, z, hi, hz, rfl, rfl, hzs⟩ := I.h
  have hk := (H.out.hp.get hm).out
  obtain ⟨v', cur', w', hr, h2, h3, g, h4⟩ := run_append_H (P := P) t o.type i z ht hi hz hzs hsz H.out.hp R.out b m c news hn (fun j u hu => by rw [hk.cell]; simpa using hu) (fun u hu => List.all_eq_true.1 h1 u hu) h0 h63 hb
  refine wpList_plain hgd fun _ hK2 => ?_
  unfold Oper.wp execOp
  simp only [ho, resolve, invoke, builtin, Sem.run_bind, Sem.run_pure, Result.andThen_ok, List.map_toArray, List.map_cons, List.map_nil, hs, hx, hr]
  exact hK2 _ _ (hK v' cur' w' (Lib.hid h2) (Lib.hid (H.out.chg h3 h4)))
/-- A load of a struct out of a row of the call's own. -/
theorem ldRw (H : Hid (Hm w0 w M ob l)) {α : Type} {enc : α → List Value} {k n : Nat} (j : Nat) {e t : TypeId} {g cap : Nat} {xs : List α} {x : α} {cur cs : List Value} (hk : ∀ x, (enc x).length = k) (hp0 : 0 < k) (R : Hid (RowV k (.slice (some ⟨g, 0, none⟩) n cap) n (flat enc xs) cur)) (hx : Hid (xs[j]? = some x)) (hcs : enc x = cs) {p : Operand} {q : Nat}
    (hK : wpList P ops Q rest a2 w) (hT : RowT P t k) (hm : (g, e, cur) ∈ l := by repeat (first | exact List.Mem.head _ | refine List.Mem.tail _ ?_ | assumption)) (ho : o.op = .load t p := by rfl) (hg : Region.wanted o (yielded ops a.tmps) = true := by first | exact wanted_none rfl | exact wanted_some rfl rfl) (hp : a.eval p = .pointer (some ⟨g, q, none⟩) := by rfl) (hq : q = k * j := by omega)
    (hn : a.put o.dst (.agg cs.toArray) = a2 := by (simp only [Act.put, List.setIfInBounds_toArray, List.set_cons_succ, List.set_cons_zero]; rfl)) : wpList P ops Q (o :: rest) a w := by
  obtain ⟨g', cap', e1, e2, _⟩ := R.out.at_ hk hx.out hp0
  injection e1 with e1
  injection e1 with e1
  injection e1 with e1
  subst e1
  subst hq
  subst hcs
  exact wpList_loadB ho hg hT hp (H.out.hp.get hm) (by simpa using e2) (hk x) (by rw [hn]; exact hK)
end
end Go.Proofs.Ythepafendopfhaa

namespace Go.Proofs.Ythepafendopfhaa
open Go.RowKit
set_option linter.unusedVariables false

inductive KdY | c (v : Value) | a | y | b
/-- These two must not change places: the later one has to wait. -/
def needY : KdY → KdY → Bool
  | .c _, _ => false
  | _, .c _ => false
  | .y, .a => false
  | .y, .b => false
  | .a, .b => false
  | .b, .a => false
  | _, _ => true
/-- What the run of an operation must bring. -/
def upY (P : Program) (G : Value → World → Prop) : Result Next → Prop
  | .ok (.value u) W' => G u W'
  | .ok .skip W' => G undef W'
  | .ok (.enter f args) W' => Calls P f args W' fun e W'' => ∃ u, e = .returned u ∧ G u W''
  | _ => False
theorem upY.mono {P : Program} {G G' : Value → World → Prop} (h : ∀ u W, G u W → G' u W) {r : Result Next} (hr : upY P G r) : upY P G' r := by
  cases r with
  | ok n W =>
    cases n <;> simp only [upY] at hr ⊢
    case value u => exact h _ _ hr
    case skip => exact h _ _ hr
    case enter f args => exact hr.mono fun e W'' ⟨u, h1, h2⟩ => ⟨u, h1, h _ _ h2⟩
  | halt x W => simp only [upY] at hr
theorem upY.some_ {P : Program} {G : Value → World → Prop} {r : Result Next} (hr : upY P G r) : ∃ u W, G u W := by
  cases r with
  | ok n W =>
    cases n <;> simp only [upY] at hr
    case value u => exact ⟨_, _, hr⟩
    case skip => exact ⟨_, _, hr⟩
    case enter f args =>
      obtain ⟨e, W'', _, ⟨u, _, h⟩, _⟩ := hr []
      exact ⟨u, W'', h⟩
  | halt x W => simp only [upY] at hr
theorem Hp.mem_sub {w0 w : World} {l m : Ents} (h : Hp w0 w l) (hs : ∀ x ∈ m, x ∈ l) (hn : (m.map (·.1)).Nodup) : Hp w0 w m := ⟨fun x hx => h.blk x (hs x hx), hn, h.bel, h.t0⟩
/-- Some world has these blocks. -/
theorem Hp.real {w0 : World} (ht : Tb w0) {l : Ents} (hn : (l.map (·.1)).Nodup) (hl : ∀ x ∈ l, w0.heap.size ≤ x.1) : ∃ W, Hp w0 W l := by
  have hf : (ovOf l).fin := by
    clear hn hl ht
    induction l with
    | nil => exact ⟨0, fun g b h => by cases h⟩
    | cons x l ih => exact ih.put _ _
  obtain ⟨W, hW⟩ := hf.real w0
  refine ⟨W, fun x hx => ⟨hl x hx, hW.has _ _ (ovOf_mem hn hx)⟩, hn, ⟨hW.all.os, hW.all.tape, hW.all.output, hW.all.size, fun k hk => hW.keep k hk ?_⟩, ht⟩
  cases hu : ovOf l k with
  | none => rfl
  | some b =>
    obtain ⟨x, hx, rfl, _⟩ := ovOf_mem_b hn hu
    have := hl x hx
    omega
/-- Blocks that can be: apart, the call's own, and the ones that stay among them. -/
structure OkY (w0 : World) (l0 l : Ents) : Prop where
  nd : (l.map (·.1)).Nodup
  lo : ∀ x ∈ l, w0.heap.size ≤ x.1
  st : ∀ x ∈ l0, x ∈ l
theorem OkY.cons {w0 : World} {l0 l : Ents} (h : OkY w0 l0 l) {g : Nat} (hg : w0.heap.size ≤ g) (hf : ∀ x ∈ l, x.1 ≠ g) (t : TypeId) (cs : List Value) : OkY w0 l0 ((g, t, cs) :: l) := by
  refine ⟨?_, fun x hx => ?_, fun x hx => .tail _ (h.st x hx)⟩
  · rw [List.map_cons, List.nodup_cons]
    refine ⟨fun hm => ?_, h.nd⟩
    obtain ⟨x, hx, he⟩ := List.mem_map.1 hm
    exact hf x hx he
  · rcases List.mem_cons.1 hx with rfl | hx
    · exact hg
    · exact h.lo x hx
theorem OkY.snoc {w0 : World} {l0 l : Ents} (h : OkY w0 l0 l) {g : Nat} (hg : w0.heap.size ≤ g) (hf : ∀ x ∈ l, x.1 ≠ g) (t : TypeId) (cs : List Value) : OkY w0 l0 (l ++ [(g, t, cs)]) := by
  have h2 := h.cons hg hf t cs
  have hp : ((g, t, cs) :: l).Perm (l ++ [(g, t, cs)]) := (List.perm_append_singleton _ _).symm
  exact ⟨(hp.map (·.1)).nodup_iff.1 h2.nd, fun x hx => h2.lo x (hp.mem_iff.2 hx), fun x hx => List.mem_append_left _ (h.st x hx)⟩
theorem OkY.new {w0 : World} {l0 l : Ents} (h : OkY w0 l0 l) : ∃ g, w0.heap.size ≤ g ∧ ∀ x ∈ l, x.1 ≠ g := by
  have : ∀ l : Ents, ∃ g, w0.heap.size ≤ g ∧ ∀ x ∈ l, x.1 < g := fun l => by
    induction l with
    | nil => exact ⟨_, Nat.le_refl _, fun x hx => by cases hx⟩
    | cons y l ih =>
      obtain ⟨g, h1, h2⟩ := ih
      refine ⟨max g (y.1 + 1), by omega, fun x hx => ?_⟩
      rcases List.mem_cons.1 hx with rfl | hx
      · omega
      · have := h2 x hx
        omega
  obtain ⟨g, h1, h2⟩ := this l
  exact ⟨g, h1, fun x hx => by have := h2 x hx; omega⟩
theorem OkY.of {w0 W : World} {l0 l F : Ents} (h : Hp w0 W (l ++ F)) (hs : ∀ x ∈ l0, x ∈ l) : OkY w0 l0 l := by
  refine ⟨?_, fun x hx => (h.blk x (List.mem_append_left _ hx)).1, hs⟩
  have := h.nd
  rw [List.map_append, List.nodup_append] at this
  exact this.1
section
variable {P : Program} {ops : Array Oper} {md : Region.Mode} {w0 : World} {l0 : Ents}
def YieldsY (P : Program) (ops : Array Oper) (w0 : World) (l0 : Ents) (o : Oper) (v : Value) (a : Act) : Prop :=
  (Region.wanted o (yielded ops a.tmps) = true ∧ ∀ W, Hp w0 W l0 → (execOp a.eval o).run P W = .ok (.value v) W) ∨ (Region.wanted o (yielded ops a.tmps) = false ∧ v = undef)
def RunsY (P : Program) (ops : Array Oper) (w0 : World) (l0 : Ents) (o : Oper) (a : Act) (l : Ents) (S : Value → Ents → Prop) : Prop :=
  Region.wanted o (yielded ops a.tmps) = true ∧ ∀ F W, Hp w0 W (l ++ F) → upY P (fun u W' => ∃ l', Hp w0 W' (l' ++ F) ∧ (∀ x ∈ l0, x ∈ l') ∧ S u l') ((execOp a.eval o).run P W)
def EffY (P : Program) (ops : Array Oper) (w0 : World) (l0 : Ents) (o : Oper) (a : Act) (l : Ents) (K : Act → Ents → Prop) : KdY → Prop
  | .c v => YieldsY P ops w0 l0 o v a ∧ K (a.put o.dst v) l
  | .a => ∃ mk t cs, AllocsAt P ops o a mk (.cells cs.toArray t (0, 0)) ∧ ∀ g, w0.heap.size ≤ g → (∀ x ∈ l, x.1 ≠ g) → K (a.put o.dst (mk g)) ((g, t, cs) :: l)
  | .y => RunsY P ops w0 l0 o a l fun u l' => K (a.put o.dst u) l'
  | .b => ∃ mk t cs, AllocsAt P ops o a mk (.cells cs.toArray t (0, 0)) ∧ ∀ g, w0.heap.size ≤ g → (∀ x ∈ l, x.1 ≠ g) → K (a.put o.dst (mk g)) (l ++ [(g, t, cs)])
theorem RunsY.mono {o : Oper} {a : Act} {l : Ents} {S S' : Value → Ents → Prop} (hS : ∀ u l', OkY w0 l0 l' → S u l' → S' u l') (h : RunsY P ops w0 l0 o a l S) : RunsY P ops w0 l0 o a l S' :=
  ⟨h.1, fun F W hW => (h.2 F W hW).mono fun u W' ⟨l', h1, h2, h3⟩ => ⟨l', h1, h2, hS _ _ (.of h1 h2) h3⟩⟩
theorem RunsY.some_ {o : Oper} {a : Act} {l : Ents} {S : Value → Ents → Prop} (ht : Tb w0) (hl : OkY w0 l0 l) (h : RunsY P ops w0 l0 o a l S) : ∃ u l', OkY w0 l0 l' ∧ S u l' := by
  obtain ⟨W, hW⟩ := Hp.real ht hl.nd hl.lo
  obtain ⟨u, W', l', h1, h2, h3⟩ := (h.2 [] W (by simpa using hW)).some_
  exact ⟨u, l', .of h1 h2, h3⟩
theorem EffY.mono {o : Oper} {a : Act} {l : Ents} {K K' : Act → Ents → Prop} {k : KdY} (hl : OkY w0 l0 l) (hK : ∀ a l', OkY w0 l0 l' → K a l' → K' a l') (h : EffY P ops w0 l0 o a l K k) : EffY P ops w0 l0 o a l K' k := by
  cases k with
  | c v => exact ⟨h.1, hK _ _ hl h.2⟩
  | a => obtain ⟨mk, t, cs, h1, h2⟩ := h; exact ⟨mk, t, cs, h1, fun g h3 h4 => hK _ _ (hl.cons h3 h4 t cs) (h2 g h3 h4)⟩
  | y => exact RunsY.mono (fun u l' => hK _ _) h
  | b => obtain ⟨mk, t, cs, h1, h2⟩ := h; exact ⟨mk, t, cs, h1, fun g h3 h4 => hK _ _ (hl.snoc h3 h4 t cs) (h2 g h3 h4)⟩
theorem EffY.some_ {o : Oper} {a : Act} {l : Ents} {K : Act → Ents → Prop} {k : KdY} (ht : Tb w0) (hl : OkY w0 l0 l) (h : EffY P ops w0 l0 o a l K k) : ∃ a' l', OkY w0 l0 l' ∧ K a' l' := by
  cases k with
  | c v => exact ⟨_, _, hl, h.2⟩
  | a => obtain ⟨mk, t, cs, h1, h2⟩ := h; obtain ⟨g, h3, h4⟩ := hl.new; exact ⟨_, _, hl.cons h3 h4 t cs, h2 g h3 h4⟩
  | y => obtain ⟨u, l', h1, h2⟩ := RunsY.some_ ht hl h; exact ⟨_, _, h1, h2⟩
  | b => obtain ⟨mk, t, cs, h1, h2⟩ := h; obtain ⟨g, h3, h4⟩ := hl.new; exact ⟨_, _, hl.snoc h3 h4 t cs, h2 g h3 h4⟩
section
variable {oi oj : Oper} {a : Act} {l : Ents} {K : Act → Ents → Prop}
/-- What may change places does. -/
theorem EffY.comm {ki kj : KdY} (ht : Tb w0) (hn : needY ki kj = false) (si : ∀ cs b, oi.op ≠ .select cs b) (sj : ∀ cs b, oj.op ≠ .select cs b) (hap : oi.apart ops oj = true) (hl : OkY w0 l0 l)
    (h : EffY P ops w0 l0 oi a l (fun a1 l1 => EffY P ops w0 l0 oj a1 l1 K kj) ki) : EffY P ops w0 l0 oj a l (fun a2 l2 => EffY P ops w0 l0 oi a2 l2 K ki) kj := by
  obtain ⟨h1, h2, h3⟩ := Oper.apart_spec hap
  have ej : ∀ u, execOp (a.put oi.dst u).eval oj = execOp a.eval oj := fun u => execOp_put oj sj a oi.dst u h1
  have wj : ∀ u, Region.wanted oj (yielded ops (a.put oi.dst u).tmps) = Region.wanted oj (yielded ops a.tmps) := fun u => wanted_put oj a oi.dst u h1
  have ei : ∀ u, execOp (a.put oj.dst u).eval oi = execOp a.eval oi := fun u => execOp_put oi si a oj.dst u h3
  have wi : ∀ u, Region.wanted oi (yielded ops (a.put oj.dst u).tmps) = Region.wanted oi (yielded ops a.tmps) := fun u => wanted_put oi a oj.dst u h3
  have cj : ∀ {v u}, YieldsY P ops w0 l0 oj v (a.put oi.dst u) → YieldsY P ops w0 l0 oj v a := fun hy => by unfold YieldsY at *; rw [ej, wj] at hy; exact hy
  have ci : ∀ {v u}, YieldsY P ops w0 l0 oi v a → YieldsY P ops w0 l0 oi v (a.put oj.dst u) := fun hy => by unfold YieldsY at *; rw [ei, wi]; exact hy
  have aj : ∀ {mk b u}, AllocsAt P ops oj (a.put oi.dst u) mk b → AllocsAt P ops oj a mk b := fun hy => by unfold AllocsAt at *; rw [ej, wj] at hy; exact hy
  have ai : ∀ {mk b u}, AllocsAt P ops oi a mk b → AllocsAt P ops oi (a.put oj.dst u) mk b := fun hy => by unfold AllocsAt at *; rw [ei, wi]; exact hy
  have yj : ∀ {u l S}, RunsY P ops w0 l0 oj (a.put oi.dst u) l S → RunsY P ops w0 l0 oj a l S := fun hy => by unfold RunsY at *; rw [ej, wj] at hy; exact hy
  have yi : ∀ {u l S}, RunsY P ops w0 l0 oi a l S → RunsY P ops w0 l0 oi (a.put oj.dst u) l S := fun hy => by unfold RunsY at *; rw [ei, wi]; exact hy
  have pc : ∀ v u, (a.put oj.dst u).put oi.dst v = (a.put oi.dst v).put oj.dst u := fun v u => (Act.put_comm a v u h2).symm
  cases ki with
  | c v =>
    cases kj with
    | c u => exact ⟨cj h.2.1, ci h.1, by rw [pc]; exact h.2.2⟩
    | a =>
      obtain ⟨hv, mk, t, cs, hA, hK⟩ := h
      exact ⟨mk, t, cs, aj hA, fun g hg hf => ⟨ci hv, by rw [pc]; exact hK g hg hf⟩⟩
    | y => exact RunsY.mono (fun u l' _ hK => ⟨ci h.1, by rw [pc]; exact hK⟩) (yj h.2)
    | b =>
      obtain ⟨hv, mk, t, cs, hA, hK⟩ := h
      exact ⟨mk, t, cs, aj hA, fun g hg hf => ⟨ci hv, by rw [pc]; exact hK g hg hf⟩⟩
  | a =>
    cases kj with
    | c u =>
      obtain ⟨mk, t, cs, hA, hK⟩ := h
      obtain ⟨g, hg, hf⟩ := hl.new
      exact ⟨cj (hK g hg hf).1, mk, t, cs, ai hA, fun g hg hf => by rw [pc]; exact (hK g hg hf).2⟩
    | a => cases hn
    | y => cases hn
    | b =>
      obtain ⟨mk, t, cs, hA, hK⟩ := h
      obtain ⟨g0, hg0, hf0⟩ := hl.new
      obtain ⟨mk', t', cs', hB, _⟩ := hK g0 hg0 hf0
      refine ⟨mk', t', cs', aj hB, fun g' hg' hf' => ⟨mk, t, cs, ai hA, fun g hg hf => ?_⟩⟩
      obtain ⟨mk2, t2, cs2, hB2, hK2⟩ := hK g hg (fun x hx => hf x (List.mem_append_left _ hx))
      obtain ⟨rfl, hb⟩ := AllocsAt.uniq w0 (aj hB) (aj hB2)
      obtain ⟨rfl, rfl⟩ := cells_inj hb
      rw [pc]
      refine hK2 g' hg' fun x hx => ?_
      rcases List.mem_cons.1 hx with rfl | hx
      · exact fun e => hf (g', t', cs') (List.mem_append_right _ (.head _)) e.symm
      · exact hf' x hx
  | b =>
    cases kj with
    | c u =>
      obtain ⟨mk, t, cs, hA, hK⟩ := h
      obtain ⟨g, hg, hf⟩ := hl.new
      exact ⟨cj (hK g hg hf).1, mk, t, cs, ai hA, fun g hg hf => by rw [pc]; exact (hK g hg hf).2⟩
    | b => cases hn
    | y => cases hn
    | a =>
      obtain ⟨mk, t, cs, hA, hK⟩ := h
      obtain ⟨g0, hg0, hf0⟩ := hl.new
      obtain ⟨mk', t', cs', hB, _⟩ := hK g0 hg0 hf0
      refine ⟨mk', t', cs', aj hB, fun g' hg' hf' => ⟨mk, t, cs, ai hA, fun g hg hf => ?_⟩⟩
      obtain ⟨mk2, t2, cs2, hB2, hK2⟩ := hK g hg (fun x hx => hf x (.tail _ hx))
      obtain ⟨rfl, hb⟩ := AllocsAt.uniq w0 (aj hB) (aj hB2)
      obtain ⟨rfl, rfl⟩ := cells_inj hb
      rw [pc]
      refine hK2 g' hg' fun x hx => ?_
      rcases List.mem_append.1 hx with hx | hx
      · exact hf' x hx
      · obtain rfl := List.mem_singleton.1 hx
        exact fun e => hf (g', t', cs') (.head _) e.symm
  | y =>
    cases kj with
    | c u =>
      obtain ⟨v, l', _, hc, _⟩ := RunsY.some_ ht hl h
      exact ⟨cj hc, yi (RunsY.mono (fun v l' _ hK => by rw [pc]; exact hK.2) h)⟩
    | a =>
      obtain ⟨v, l', _, mk, t, cs, hA, _⟩ := RunsY.some_ ht hl h
      refine ⟨mk, t, cs, aj hA, fun g hg hf => yi ⟨h.1, fun F W hW => ?_⟩⟩
      have hW2 : Hp w0 W (l ++ (g, t, cs) :: F) := hW.perm (by simp [List.perm_middle.symm])
      refine (h.2 _ W hW2).mono fun u W' ⟨l', h4, h5, mk2, t2, cs2, hA2, hK⟩ => ⟨(g, t, cs) :: l', h4.perm (by simp [List.perm_middle]), fun x hx => .tail _ (h5 x hx), ?_⟩
      obtain ⟨rfl, hb⟩ := AllocsAt.uniq w0 (aj hA) (aj hA2)
      obtain ⟨rfl, rfl⟩ := cells_inj hb
      rw [pc]
      refine hK g hg fun x hx e => ?_
      have := h4.nd
      rw [List.map_append, List.nodup_append] at this
      exact this.2.2 x.1 (List.mem_map.2 ⟨x, hx, rfl⟩) g (List.mem_map.2 ⟨_, .head _, rfl⟩) e
    | y => cases hn
    | b =>
      obtain ⟨v, l', _, mk, t, cs, hA, _⟩ := RunsY.some_ ht hl h
      refine ⟨mk, t, cs, aj hA, fun g hg hf => yi ⟨h.1, fun F W hW => ?_⟩⟩
      have hW2 : Hp w0 W (l ++ (g, t, cs) :: F) := by rw [List.append_assoc] at hW; exact hW
      refine (h.2 _ W hW2).mono fun u W' ⟨l', h4, h5, mk2, t2, cs2, hA2, hK⟩ => ⟨l' ++ [(g, t, cs)], by rw [List.append_assoc]; exact h4, fun x hx => List.mem_append_left _ (h5 x hx), ?_⟩
      obtain ⟨rfl, hb⟩ := AllocsAt.uniq w0 (aj hA) (aj hA2)
      obtain ⟨rfl, rfl⟩ := cells_inj hb
      rw [pc]
      refine hK g hg fun x hx e => ?_
      have := h4.nd
      rw [List.map_append, List.nodup_append] at this
      exact this.2.2 x.1 (List.mem_map.2 ⟨x, hx, rfl⟩) g (List.mem_map.2 ⟨_, .head _, rfl⟩) e
end
def edgesY (md : Region.Mode) (ops : Array Oper) (kd : Nat → KdY) (N : Nat) : Bool := (List.range N).all fun j => (List.range j).all fun i => !needY (kd i) (kd j) || reachB md ops i N j
theorem edgesY_spec {kd : Nat → KdY} {N : Nat} (h : edgesY md ops kd N = true) {j i : Nat} (hj : j < N) (hi : i < j) (hn : needY (kd i) (kd j) = true) : reachB md ops i N j = true := by
  have h1 := List.all_eq_true.1 h j (by simpa using hj)
  have h2 := List.all_eq_true.1 h1 i (by simpa using hi)
  simpa [hn] using h2
/-! Every order -/
def HeadY (P : Program) (md : Region.Mode) (ops : Array Oper) (w0 : World) (l0 : Ents) (kd : Nat → KdY) (N : Nat) (L : Array Bool → Act → Ents → Prop) : Nat → Array Bool → Act → Ents → Prop
  | 0, done, a, l => L done a l
  | f + 1, done, a, l => Region.ready md ops done ≠ [] ∧ ∀ i ∈ Region.ready md ops done, i < N ∧ ∃ o, ops[i]? = some o ∧ EffY P ops w0 l0 o a l (HeadY P md ops w0 l0 kd N L f (done.setIfInBounds i true)) (kd i)
variable {kd : Nat → KdY} {N : Nat}
theorem HeadY.any {L : Array Bool → Act → Ents → Prop} {g : Nat} {Q : Exit → Act → World → Prop} (h0 : (l0.map (·.1)).Nodup) (hL : ∀ done a l W, Hp w0 W l → L done a l → wpAny P md ops Q g done a W) (f : Nat) :
    ∀ (done : Array Bool) (a : Act) (l : Ents) (W : World), Hp w0 W l → OkY w0 l0 l → HeadY P md ops w0 l0 kd N L f done a l → wpAny P md ops Q (f + g) done a W := by
  induction f with
  | zero => intro done a l W hw _ h; rw [Nat.zero_add]; exact hL _ _ _ _ hw h
  | succ f ih =>
    intro done a l W hw hI h
    rw [show f + 1 + g = (f + g) + 1 by omega]
    refine ⟨fun h0 => absurd h0 h.1, fun i hi => ?_⟩
    obtain ⟨_, o, ho, hE⟩ := h.2 i hi
    unfold wpOp
    simp only [ho]
    cases hkd : kd i with
    | c v =>
      rw [hkd] at hE
      obtain ⟨hy, hK⟩ := hE
      rcases hy with ⟨h1, h2⟩ | ⟨h1, rfl⟩
      · rw [if_pos h1]
        refine .inl ?_
        unfold Oper.wp
        rw [h2 W (hw.mem_sub hI.st h0), Oper.upon_value]
        exact ih _ _ _ _ hw hI hK
      · rw [if_neg (by rw [h1]; exact Bool.false_ne_true)]
        exact ih _ _ _ _ hw hI hK
    | a =>
      rw [hkd] at hE
      obtain ⟨mk, t, cs, ⟨h1, h2⟩, hK⟩ := hE
      rw [if_pos h1]
      refine .inl ?_
      unfold Oper.wp
      rw [h2, Oper.upon_value]
      have hf : ∀ x ∈ l, x.1 ≠ W.heap.size := fun x hx e => by have := hw.lt hx; omega
      exact ih _ _ _ _ (hw.fresh ((Below.refl _ _).alloc (Nat.le_refl _) _) (Nat.le_refl _) (Blk.new W t cs.toArray)) (hI.cons hw.bel.size hf t cs) (hK _ hw.bel.size hf)
    | b =>
      rw [hkd] at hE
      obtain ⟨mk, t, cs, ⟨h1, h2⟩, hK⟩ := hE
      rw [if_pos h1]
      refine .inl ?_
      unfold Oper.wp
      rw [h2, Oper.upon_value]
      have hf : ∀ x ∈ l, x.1 ≠ W.heap.size := fun x hx e => by have := hw.lt hx; omega
      exact ih _ _ _ _ ((hw.fresh ((Below.refl _ _).alloc (Nat.le_refl _) _) (Nat.le_refl _) (Blk.new W t cs.toArray)).perm (List.perm_append_singleton _ _).symm) (hI.snoc hw.bel.size hf t cs) (hK _ hw.bel.size hf)
    | y =>
      rw [hkd] at hE
      rw [if_pos hE.1]
      refine .inl ?_
      have h3 := hE.2 [] W (by simpa using hw)
      unfold Oper.wp
      generalize (execOp a.eval o).run P W = r at h3
      cases r with
      | ok n W' =>
        cases n <;> simp only [upY] at h3 <;> simp only [Oper.upon]
        case value u =>
          obtain ⟨l', h4, h5, h6⟩ := h3
          exact ih _ _ _ _ (by simpa using h4) (.of h4 h5) h6
        case skip =>
          obtain ⟨l', h4, h5, h6⟩ := h3
          exact ih _ _ _ _ (by simpa using h4) (.of h4 h5) h6
        case enter f' args =>
          exact h3.mono fun e w'' ⟨u, he, l', h4, h5, h6⟩ => by subst he; exact ih _ _ _ _ (by simpa using h4) (.of h4 h5) h6
      | halt x W' => simp only [upY] at h3
theorem HeadY.first {L : Array Bool → Act → Ents → Prop} {i : Nat} {oi : Oper} (ht : Tb w0) (hi : ops[i]? = some oi) (hiN : i < N) (hsel : ∀ (j : Nat) (o : Oper) cs b, ops[j]? = some o → o.op ≠ .select cs b)
    (hE : edgesY md ops kd N = true) (hs : Region.sinkB md ops N = true) (hc : Region.chainB md ops N = true) (hn : N < ops.size) (hL : ∀ done a l, L done a l → ∀ j ∈ Region.ready md ops done, N ≤ j) (f : Nat) :
    ∀ (done : Array Bool) (a : Act) (l : Ents), HeadInv md ops N done → OkY w0 l0 l → (∀ j, j < i → done.getD j true = true) →
      (∀ j oj, ops[j]? = some oj → j ≠ i → done.getD j true = false → (∀ e ∈ oj.after, Region.binds md e = true → e.on ≠ i) → oi.apart ops oj = true) →
      i ∈ Region.ready md ops done → EffY P ops w0 l0 oi a l (HeadY P md ops w0 l0 kd N L f (done.setIfInBounds i true)) (kd i) → HeadY P md ops w0 l0 kd N L (f + 1) done a l := by
  have low : ∀ done, HeadInv md ops N done → i ∈ Region.ready md ops done → ∀ j ∈ Region.ready md ops done, j < N := fun done inv hr j hj => by
    rcases Nat.lt_or_ge j N with h | h
    · exact h
    · exact absurd hj (tail_waits hs hc hn inv _ i rfl hiN (mem_ready.1 hr).1 j h)
  induction f with
  | zero =>
    intro done a l inv hl _ _ hr H
    refine ⟨fun h => (by rw [h] at hr; cases hr), fun j hj => ⟨low done inv hr j hj, ?_⟩⟩
    rcases Nat.decEq j i with hji | hji
    · obtain ⟨a', l', _, hl'⟩ := EffY.some_ ht hl H
      have := hL _ _ _ hl' j (ready_mono hj hji)
      have := low done inv hr j hj
      omega
    · subst hji; exact ⟨oi, hi, H⟩
  | succ f ih =>
    intro done a l inv hl hd hfree hr H
    refine ⟨fun h => (by rw [h] at hr; cases hr), fun j hj => ⟨low done inv hr j hj, ?_⟩⟩
    rcases Nat.decEq j i with hji | hji
    · obtain ⟨hjun, oj, hoj, hall⟩ := mem_ready.1 hj
      have hun := (mem_ready.1 hr).1
      have hnot : ∀ e ∈ oj.after, Region.binds md e = true → e.on ≠ i := fun e he hb heq => by
        have h1 := hall e he hb
        rw [heq, getD_both hun] at h1
        cases h1
      have hap := hfree j oj hoj hji hjun hnot
      have back : ∀ k, (done.setIfInBounds j true).getD k true = false → done.getD k true = false := fun k hk => by
        rcases Nat.decEq j k with hjk | hjk
        · rw [getD_set_ne true hjk] at hk; exact hk
        · subst hjk; exact hjun
      have hij : i < j := by
        rcases Nat.lt_or_ge i j with h | h
        · exact h
        · have := hd j (by omega)
          rw [hjun] at this
          cases this
      have hjN := low done inv hr j hj
      have hne : needY (kd i) (kd j) = false := by
        cases hq : needY (kd i) (kd j) with
        | false => rfl
        | true => exact absurd hj (reach_waits inv (edgesY_spec hE hjN hij hq) hun)
      refine ⟨oj, hoj, ?_⟩
      have H2 : EffY P ops w0 l0 oi a l (fun a1 l1 => EffY P ops w0 l0 oj a1 l1 (HeadY P md ops w0 l0 kd N L f ((done.setIfInBounds j true).setIfInBounds i true)) (kd j)) (kd i) := H.mono hl fun a1 l1 _ h => by
        obtain ⟨_, oj', hoj', hh⟩ := h.2 j (ready_mono hj hji)
        obtain rfl : oj = oj' := Option.some.inj (hoj.symm.trans hoj')
        rw [Array.setIfInBounds_comm _ _ hji]
        exact hh
      have H3 := EffY.comm ht hne (fun cs b => hsel i oi cs b hi) (fun cs b => hsel j oj cs b hoj) hap hl H2
      refine H3.mono hl fun a2 l2 hf2 h2 => ih _ a2 l2 (inv.set hj hjN) hf2 (fun k hk => by rw [getD_set_ne true (by omega)]; exact hd k hk) (fun k ok hk hki hun' hno => hfree k ok hk hki (back k hun') hno) (ready_mono hr (Ne.symm hji)) h2
    · subst hji; exact ⟨oi, hi, H⟩

/-- The walk in the text's order. -/
def wpY (P : Program) (ops : Array Oper) (w0 : World) (l0 : Ents) (kd : Nat → KdY) (R : Act → Ents → Prop) : Nat → List Oper → Act → Ents → Prop
  | _, [], a, l => R a l
  | k, o :: os, a, l => EffY P ops w0 l0 o a l (wpY P ops w0 l0 kd R (k + 1) os) (kd k)
theorem HeadY.lex {g : Nat} {R : Act → Ents → Prop} (ht : Tb w0) (hsel : Region.noSelect ops = true) (hE : edgesY md ops kd N = true) (hs : Region.sinkB md ops N = true) (hc : Region.chainB md ops N = true) (hn : N < ops.size) (ol : List Oper) :
    ∀ (k : Nat) (done : Array Bool) (a : Act) (l : Ents), (∀ j, j < ol.length → ol[j]? = ops[k + j]?) → k + ol.length = N → HeadInv md ops N done → (∀ j, j < k → done.getD j true = true) → OkY w0 l0 l →
      Region.lexHead md ops g ol.length k done = true → wpY P ops w0 l0 kd R k ol a l →
      HeadY P md ops w0 l0 kd N (fun done' a' l' => Region.seqB md ops g N done' = true ∧ R a' l') ol.length done a l := by
  induction ol with
  | nil =>
    intro k done a l _ hk _ _ _ hB h
    obtain rfl : k = N := by simpa using hk
    exact ⟨by simpa [Region.lexHead] using hB, h⟩
  | cons o ol ih =>
    intro k done a l hl hk inv hd hU hB h
    have h0 : ops[k]? = some o := by simpa using (hl 0 (by simp)).symm
    simp only [List.length_cons] at hk hB ⊢
    rw [Region.lexHead, Bool.and_eq_true, Bool.and_eq_true] at hB
    obtain ⟨⟨hr, hf⟩, hB'⟩ := hB
    have hr' : k ∈ Region.ready md ops done := by simpa using hr
    have hd' : ∀ j, j < k + 1 → (done.setIfInBounds k true).getD j true = true := fun j hj => by
      rcases Nat.decEq k j with hkj | hkj
      · rw [getD_set_ne true hkj]; exact hd j (by omega)
      · subst hkj
        have hks : k < done.size := by rw [inv.size]; omega
        simp [hks]
    refine HeadY.first ht h0 (by omega) (Region.noSelect_spec hsel) hE hs hc hn (fun done' a' U' hL => seqB_ready hL.1) ol.length done a l inv hU hd (Region.free_spec h0 hf) hr' ?_
    exact EffY.mono hU (fun a' l' hf' h' => ih (k + 1) _ a' l' (fun j hj => by have := hl (j + 1) (by simp; omega); simpa [Nat.add_assoc, Nat.add_comm 1 j] using this) (by omega) (inv.set hr' (by omega)) hd' hf' hB' h') h

/-- **A drawn region**, walked in the text's order: N operations of the kinds ks; the rest comes in one forced order. -/
theorem wp_region_Y {id : Nat} {Q : Exit → Act → World → Prop} {a : Act} {ol : List Oper} {w : World} {l : Ents} (N : Nat) (ks : List KdY) (l0 : Ents) (H : Hid (Hp w0 w l)) (hS : l0.Sublist l) (hm : P.follows .mixedOrders = true) (hB : Region.lexTailB .any ol.toArray N = true) (hE : edgesY .any ol.toArray (fun k => ks.getD k .y) N = true)
    (h : wpY P ol.toArray w0 l0 (fun k => ks.getD k .y) (fun a' l' => ∀ W, Hid (Hp w0 W l') → wpList P ol.toArray Q (ol.drop N) a' W) 0 (ol.take N) a l) : (Code.region id ol.toArray true).wp P Q a w := by
  have hs : ∀ x ∈ l0, x ∈ l := fun x hx => hS.subset hx
  have h0 : (l0.map (·.1)).Nodup := (hS.map (·.1)).nodup H.out.nd
  simp only [Region.lexTailB, Bool.and_eq_true, decide_eq_true_eq] at hB
  obtain ⟨⟨⟨⟨hsel, hn⟩, hs'⟩, hc⟩, hlex⟩ := hB
  have hn' : N < ol.length := by simpa using hn
  have htl : (ol.take N).length = N := by simp; omega
  have hdl : (ol.drop N).length = ol.toArray.size - N := by simp
  have start : HeadInv .any ol.toArray N (Array.replicate ol.toArray.size false) := by
    constructor
    · simp
    · intro j oj _ hl; rw [getD_replicate_false] at hl; cases hl
    · intro t _ ht; exact getD_in (by simpa using ht) (getD_replicate_false _ _)
  have hok : OkY w0 l0 l := ⟨H.out.nd, fun x hx => (H.out.blk x hx).1, hs⟩
  have H2 := HeadY.lex (P := P) (w0 := w0) (l0 := l0) (md := .any) (N := N) (g := ol.toArray.size - N) (R := fun a' l' => ∀ W, Hid (Hp w0 W l') → wpList P ol.toArray Q (ol.drop N) a' W) H.out.t0 hsel hE hs' hc hn (ol.take N) 0 _ a l
    (fun j hj => by rw [htl] at hj; simp [hj]) (by rw [htl]; omega) start (fun j hj => by omega) hok (by rw [htl]; exact hlex) h
  rw [htl] at H2
  refine wp_region_any hm ?_
  have := HeadY.any (Q := Q) (g := ol.toArray.size - N) h0 (fun done a' l' W hW hL => by
    have := wpAny_of_seq (md := .any) (Q' := Q) (ol.drop N) N done a' W (fun j => by simp [List.getElem?_drop]) (by rw [hdl]; exact hL.1) (hL.2 W (Lib.hid hW))
    rwa [hdl] at this) _ _ _ _ _ (show Hp w0 { w with drawn := w.drawn + 1 } l from ⟨H.out.blk, H.out.nd, H.out.bel.drew, H.out.t0⟩) hok H2
  rwa [show N + (ol.toArray.size - N) = ol.toArray.size by omega] at this
end
/-! The steps -/
section
variable {P : Program} {ops : Array Oper} {rest : List Oper} {o : Oper} {a a2 : Act} {w0 : World} {l l0 : Ents} {kd : Nat → KdY} {k : Nat} {R : Act → Ents → Prop}
theorem wpY_nil (h : R a l) : wpY P ops w0 l0 kd R k [] a l := h
/-- Known ahead. -/
theorem wpY_c {v : Value} (hk : kd k = .c v) (hg : Region.wanted o (yielded ops a.tmps) = true) (hr : ∀ W, Hid (Hp w0 W l0) → (execOp a.eval o).run P W = .ok (.value v) W) (h : wpY P ops w0 l0 kd R (k + 1) rest (a.put o.dst v) l) : wpY P ops w0 l0 kd R k (o :: rest) a l := by
  show EffY P ops w0 l0 o a l _ (kd k)
  rw [hk]
  exact ⟨.inl ⟨hg, fun W hW => hr W (Lib.hid hW)⟩, h⟩
theorem wpY_skip {i : Nat} {b : Bool} (hk : kd k = .c undef) (hg : o.guard = some (i, b)) (hy : yielded ops a.tmps i = some (!b)) (h : wpY P ops w0 l0 kd R (k + 1) rest (a.put o.dst undef) l) : wpY P ops w0 l0 kd R k (o :: rest) a l := by
  show EffY P ops w0 l0 o a l _ (kd k)
  rw [hk]
  exact ⟨.inr ⟨by simp [Region.wanted, hg, hy], rfl⟩, h⟩
theorem wpY_load {t T : TypeId} {p : Operand} {b j n : Nat} {cs ds : List Value} (hk : kd k = .c (.agg ds.toArray)) (ho : o.op = .load t p) (hg : Region.wanted o (yielded ops a.tmps) = true) (hT : RowT P t n) (hp : a.eval p = .pointer (some ⟨b, j, none⟩))
    (hm : (b, T, cs) ∈ l0) (hx : (cs.drop j).take n = ds) (hl : ds.length = n) (h : wpY P ops w0 l0 kd R (k + 1) rest (a.put o.dst (.agg ds.toArray)) l) : wpY P ops w0 l0 kd R k (o :: rest) a l :=
  wpY_c hk hg (fun W hW => by
    have hr := run_loadB (P := P) (t := t) (k := j) (hW.out.get hm) hT (by simpa using hx) hl
    unfold execOp
    simp only [ho, hp, hr, Sem.run_bind, Sem.run_pure, Result.andThen_ok]) h
theorem wpY_load1 {t T : TypeId} {p : Operand} {b j : Nat} {cs : List Value} {v : Value} (hk : kd k = .c v) (ho : o.op = .load t p) (hg : Region.wanted o (yielded ops a.tmps) = true) (hT : ∃ d, P.underlying t = some d ∧ d.isRow = false) (hp : a.eval p = .pointer (some ⟨b, j, none⟩))
    (hm : (b, T, cs) ∈ l0) (hx : cs[j]? = some v) (h : wpY P ops w0 l0 kd R (k + 1) rest (a.put o.dst v) l) : wpY P ops w0 l0 kd R k (o :: rest) a l :=
  wpY_c hk hg (fun W hW => by
    have hr := run_loadC (P := P) (t := t) (k := j) hT (hW.out.get hm).out (by simpa using hx)
    unfold execOp
    simp only [ho, hp, hr, Sem.run_bind, Sem.run_pure, Result.andThen_ok]) h
theorem wpY_a {mk : Nat → Value} {t : TypeId} {cs : List Value} (hk : kd k = .a) (hA : AllocsAt P ops o a mk (.cells cs.toArray t (0, 0))) (h : ∀ g, wpY P ops w0 l0 kd R (k + 1) rest (a.put o.dst (mk g)) ((g, t, cs) :: l)) : wpY P ops w0 l0 kd R k (o :: rest) a l := by
  show EffY P ops w0 l0 o a l _ (kd k)
  rw [hk]
  exact ⟨mk, t, cs, hA, fun g _ _ => h g⟩
theorem wpY_y (hk : kd k = .y) (hg : Region.wanted o (yielded ops a.tmps) = true) (h : ∀ (G : Value → World → Prop) (F : Ents) (W : World), Hid (Hp w0 W (l ++ F)) → (∀ u W' l', Hp w0 W' (l' ++ F) → l0.Sublist l' → wpY P ops w0 l0 kd R (k + 1) rest (a.put o.dst u) l' → G u W') → upY P G ((execOp a.eval o).run P W)) : wpY P ops w0 l0 kd R k (o :: rest) a l := by
  show EffY P ops w0 l0 o a l _ (kd k)
  rw [hk]
  exact ⟨hg, fun F W hW => h _ F W (Lib.hid hW) fun u W' l' h1 h2 h3 => ⟨l', h1, fun x hx => h2.subset hx, h3⟩⟩
/-- A new variable. -/
theorem wpY_al {t : TypeId} {z : Value} {cs : List Value} (hk : kd k = .a) (ho : o.op = .alloc t) (hg : o.guard = none) (hz : (P.info? t).bind (·.zero) = some z) (hc : z.cells = cs.toArray)
    (h : ∀ g, wpY P ops w0 l0 kd R (k + 1) rest (a.put o.dst (.pointer (some ⟨g, 0, none⟩))) ((g, t, cs) :: l)) : wpY P ops w0 l0 kd R k (o :: rest) a l := by
  have hi : ∃ i, P.info? t = some i ∧ i.zero = some z := by
    cases hq : P.info? t with
    | none => simp [hq] at hz
    | some i => exact ⟨i, rfl, by simpa [hq] using hz⟩
  obtain ⟨i, hi1, hi2⟩ := hi
  exact wpY_a (mk := fun g => .pointer (some ⟨g, 0, none⟩)) hk ⟨by simp [Region.wanted, hg], fun W => by
    unfold execOp
    simp only [ho]
    simp [go_sem, zeroValue, typeInfo, hi1, hi2]
    show W.alloc (.cells z.cells t) = _
    rw [hc]⟩ h
/-- Pure, its value not known ahead. -/
theorem wpY_p {v : Value} (hk : kd k = .y) (hs : l0.Sublist l) (hg : Region.wanted o (yielded ops a.tmps) = true) (hr : ∀ W, (execOp a.eval o).run P W = .ok (.value v) W) (h : wpY P ops w0 l0 kd R (k + 1) rest (a.put o.dst v) l) : wpY P ops w0 l0 kd R k (o :: rest) a l :=
  wpY_y hk hg fun G F W hW hG => by rw [hr W]; exact hG _ _ _ hW.out hs h
/-- A literal slice. -/
theorem wpY_alB {t : TypeId} {z : Value} {cs : List Value} (hk : kd k = .b) (ho : o.op = .alloc t) (hg : o.guard = none) (hz : (P.info? t).bind (·.zero) = some z) (hc : z.cells = cs.toArray)
    (h : ∀ g, wpY P ops w0 l0 kd R (k + 1) rest (a.put o.dst (.pointer (some ⟨g, 0, none⟩))) (l ++ [(g, t, cs)])) : wpY P ops w0 l0 kd R k (o :: rest) a l := by
  have hi : ∃ i, P.info? t = some i ∧ i.zero = some z := by
    cases hq : P.info? t with
    | none => simp [hq] at hz
    | some i => exact ⟨i, rfl, by simpa [hq] using hz⟩
  obtain ⟨i, hi1, hi2⟩ := hi
  show EffY P ops w0 l0 o a l _ (kd k)
  rw [hk]
  refine ⟨fun g => .pointer (some ⟨g, 0, none⟩), t, cs, ⟨by simp [Region.wanted, hg], fun W => by
    unfold execOp
    simp only [ho]
    simp [go_sem, zeroValue, typeInfo, hi1, hi2]
    show W.alloc (.cells z.cells t) = _
    rw [hc]⟩, fun g _ _ => h g⟩
theorem wpY_V (t : TypeId) (cs : List Value) (n : Nat) (hk : kd k = .a) (hg : o.guard = none) (hr : ∀ W : World, (execOp a.eval o).run P W = .ok (.value (.slice (some ⟨W.heap.size, 0, none⟩) n n)) (W.alloc (.cells cs.toArray t)))
    (h : ∀ g, wpY P ops w0 l0 kd R (k + 1) rest (a.put o.dst (.slice (some ⟨g, 0, none⟩) n n)) ((g, t, cs) :: l)) : wpY P ops w0 l0 kd R k (o :: rest) a l :=
  wpY_a (mk := fun g => .slice (some ⟨g, 0, none⟩) n n) hk ⟨by simp [Region.wanted, hg], hr⟩ h
/-- A cell that is known wherever l0 lies. -/
theorem wpY_loadX {t : TypeId} {p : Operand} {b j : Nat} {v : Value} (hk : kd k = .c v) (ho : o.op = .load t p) (hg : Region.wanted o (yielded ops a.tmps) = true) (hT : ∃ d, P.underlying t = some d ∧ d.isRow = false) (hp : a.eval p = .pointer (some ⟨b, j, none⟩))
    (hx : ∀ W, Hid (Hp w0 W l0) → W.cell? ⟨b, j, none⟩ = some v) (h : wpY P ops w0 l0 kd R (k + 1) rest (a.put o.dst v) l) : wpY P ops w0 l0 kd R k (o :: rest) a l :=
  wpY_c hk hg (fun W hW => by
    obtain ⟨d, h1, h2⟩ := hT
    have hc := hx W hW
    have hagg : (isAgg t).run P W = .ok false W := by
      unfold isAgg
      rw [Sem.run_bind, run_underlying h1 W]
      cases d <;> simp_all
    unfold execOp
    simp only [ho, hp, Instr.loadAt, Instr.sureAddr, loadVar, Sem.run_bind, Sem.run_pure, Result.andThen_ok, hagg]
    simp [hc, go_sem]) h
end
end Go.Proofs.Ythepafendopfhaa

namespace Go.Proofs.Ythepafendopfhaa
open Go.RowKit
set_option linter.unusedVariables false

theorem wpY_app {P : Program} {ops : Array Oper} {rest : List Oper} {o : Oper} {a : Act} {w0 : World} {l l0 : Ents} {kd : Nat → KdY} {k : Nat} {R : Act → Ents → Prop} {size bytes m n b c : Nat} {t e e2 : TypeId} {v : Value} {xs cur news : List Value} (X T : Ents) (hk : kd k = .y) (hg : Region.wanted o (yielded ops a.tmps) = true) (RV : Hid (RowV size v n xs cur)) (I : InfoT P e size bytes) (hsz : 0 < size) (ht : P.underlying t = some (.slice e)) {s x : Operand}
    (ho : o.op = .call { callee := .builtin .append, args := #[s, x], argTypes := #[t, t] }) (hs : a.eval s = v) (hx : a.eval x = .slice (some ⟨b, 0, none⟩) m c) (hm : (b, e2, news) ∈ l) (hn : news.length = m * size) (h1 : news.all (·.oneCell') = true) (h0 : 0 < m) (h63 : n + m ≤ maxLen) (hb : (n + m) * bytes ≤ 140737488355328) (hl : l = X ++ (rowE v e cur ++ T)) (hst : ∀ x ∈ l0, x ∈ X ++ T)
    (h : ∀ v' cur', Hid (RowV size v' (n + m) (xs ++ news) cur') → wpY P ops w0 l0 kd R (k + 1) rest (a.put o.dst v') (X ++ (rowE v' e cur' ++ T))) : wpY P ops w0 l0 kd R k (o :: rest) a l := by
  subst hl
  obtain ⟨i, z, hi, hz, rfl, rfl, hzs⟩ := I.h
  show EffY P ops w0 l0 o a _ _ (kd k)
  rw [hk]
  refine ⟨hg, fun F W hW => ?_⟩
  have e0 : (X ++ (rowE v e cur ++ T)) ++ F = X ++ (rowE v e cur ++ (T ++ F)) := by simp only [List.append_assoc]
  have hbk := (hW.blk (b, e2, news) (List.mem_append_left _ hm)).2
  rw [e0] at hW
  obtain ⟨v', cur', w', hr, h2, h3, _⟩ := run_append_H (P := P) t o.type i z ht hi hz hzs hsz hW RV.out b m c news hn (fun j u hu => by rw [hbk.cell]; simpa using hu) (fun u hu => List.all_eq_true.1 h1 u hu) h0 h63 hb
  unfold execOp
  simp only [ho, resolve, invoke, builtin, Sem.run_bind, Sem.run_pure, Result.andThen_ok, List.map_toArray, List.map_cons, List.map_nil, hs, hx, hr, upY]
  refine ⟨X ++ (rowE v' e cur' ++ T), by simpa only [List.append_assoc] using h3, fun x hx => ?_, h v' cur' (Lib.hid h2)⟩
  have := hst x hx
  simp only [List.mem_append] at this ⊢
  rcases this with h | h
  · exact .inl h
  · exact .inr (.inr h)
end Go.Proofs.Ythepafendopfhaa
