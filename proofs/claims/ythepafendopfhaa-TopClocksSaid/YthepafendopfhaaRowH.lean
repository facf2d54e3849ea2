/- Slices that grow, over the list of the call's blocks. No program. -/
import Derived.Test.YthepafendopfhaaHeapU
import Derived.Test.YthepafendopfhaaOwn
namespace Go.Proofs.Ythepafendopfhaa
open Go.RowKit
set_option linter.unusedVariables false

theorem Hp.perm {w0 w : World} {l l2 : Ents} (h : Hp w0 w l) (hp : l.Perm l2) : Hp w0 w l2 := ⟨fun x hx => h.blk x (hp.mem_iff.2 hx), (hp.map (·.1)).nodup_iff.1 h.nd, h.bel, h.t0⟩
theorem Hp.sub {w0 w : World} {l l2 : Ents} (h : Hp w0 w l) (hs : l2.Sublist l) : Hp w0 w l2 := ⟨fun x hx => h.blk x (hs.subset hx), (hs.map (·.1)).nodup h.nd, h.bel, h.t0⟩
theorem Upd.mid (X : Ents) {T : Ents} {g : Nat} {e : TypeId} {cs ds : List Value} : Upd (X ++ (g, e, cs) :: T) g e cs ds (X ++ (g, e, ds) :: T) := by
  induction X with
  | nil => exact .head
  | cons x X ih => exact .tail ih
/-- The block of a slice's row, if it has one. -/
def rowE (v : Value) (e : TypeId) (cur : List Value) : Ents :=
  match v with
  | .slice (some p) _ _ => [(p.block, e, cur)]
  | _ => []
/-- A slice of n elements, xs cell by cell; cur is its whole row. -/
structure RowV (size : Nat) (v : Value) (n : Nat) (xs cur : List Value) : Prop where
  len : xs.length = n * size
  or_ : (v = .slice none 0 0 ∧ n = 0) ∨ ∃ g cap, v = .slice (some ⟨g, 0, none⟩) n cap ∧ n ≤ cap ∧ cap ≤ maxLen ∧ cur.length = cap * size ∧ cur.take (n * size) = xs
theorem RowV.nil (size : Nat) : RowV size (.slice none 0 0) 0 [] [] := ⟨by simp, .inl ⟨rfl, rfl⟩⟩
theorem Hp.cons {w0 w w' : World} {X T : Ents} {t : TypeId} {cs : List Value} (h : Hp w0 w (X ++ T)) (hb : Below w.heap.size w w') (hk : Blk w' w.heap.size t cs.toArray) : Hp w0 w' (X ++ (w.heap.size, t, cs) :: T) :=
  (h.fresh hb (Nat.le_refl _) hk).perm List.perm_middle.symm
/-- Of the blocks that there were only z has changed, or z is new; l' knows of no others than l did, but z. -/
structure Chg (w w' : World) (l l' : Ents) (z : Nat) : Prop where
  all : Below 0 w w'
  old : z = w.heap.size ∨ ∃ x ∈ l, x.1 = z
  lt : z < w'.heap.size
  keep : ∀ k, k < w.heap.size → k ≠ z → w'.heap[k]? = w.heap[k]?
  sub : ∀ x ∈ l', x.1 ≠ z → x ∈ l
section
variable {P : Program} {w0 w : World} {X T : Ents} {e : TypeId} {cur xs : List Value} {v : Value} {n : Nat}
theorem run_append_H (t ty : TypeId) (i : TypeInfo) (z : Value) (ht : P.underlying t = some (.slice e)) (hi : P.info? e = some i) (hz : i.zero = some z) (hzs : z.cells.size = i.size) (hsz : 0 < i.size)
    (H : Hp w0 w (X ++ (rowE v e cur ++ T))) (R : RowV i.size v n xs cur) (b m c : Nat) (news : List Value) (hl : news.length = m * i.size) (hnews : ∀ j u, news[j]? = some u → w.cell? ⟨b, j, none⟩ = some u) (h1 : ∀ u ∈ news, u.oneCell' = true)
    (hm : 0 < m) (h63 : n + m ≤ maxLen) (hbytes : (n + m) * i.bytes ≤ 140737488355328) :
    ∃ v' cur' w', (Builtin.append_ #[t, t] ty #[v, .slice (some ⟨b, 0, none⟩) m c]).run P w = .ok v' w' ∧ RowV i.size v' (n + m) (xs ++ news) cur' ∧ Hp w0 w' (X ++ (rowE v' e cur' ++ T)) ∧ ∃ z, Chg w w' (X ++ (rowE v e cur ++ T)) (X ++ (rowE v' e cur' ++ T)) z := by
  have hsmall : n + m ≤ 9223372036854775807 := by simp only [maxLen] at h63; omega
  have hlen : (xs ++ news).length = (n + m) * i.size := by rw [List.length_append, R.len, hl, Nat.add_mul]
  have hn' : ∀ j u, news[j]? = some u → w.cell? ((⟨b, 0, none⟩ : Addr).add j) = some u := fun j u hu => by rw [Addr.add_lit, Nat.zero_add]; exact hnews j u hu
  -- a new row
  have new : ∀ (old : Nat), (∀ k, X ++ T = k → Hp w0 w k) → ∃ cur' w', w' = w.drew.alloc (.cells (xs.toArray ++ news.toArray ++ Builtin.zeroCells z.cells (grownCap w (n + m) old e - (n + m))) e) ∧
      RowV i.size (.slice (some ⟨w.heap.size, 0, none⟩) (n + m) (grownCap w (n + m) old e)) (n + m) (xs ++ news) cur' ∧ Hp w0 w' (X ++ ((w.heap.size, e, cur') :: T)) ∧ Chg w w' (X ++ (rowE v e cur ++ T)) (X ++ ((w.heap.size, e, cur') :: T)) w.heap.size := fun old hX => by
    have hge := grownCap_ge w (n + m) old e
    have hcm : grownCap w (n + m) old e ≤ maxLen := grownCap_le_maxLen w (n + m) old e h63
    refine ⟨(xs.toArray ++ news.toArray ++ Builtin.zeroCells z.cells (grownCap w (n + m) old e - (n + m))).toList, _, rfl, ⟨hlen, .inr ⟨_, _, rfl, hge, hcm, ?_, ?_⟩⟩, ?_, ?_⟩
    · simp only [Array.length_toList, Array.size_append, List.size_toArray, size_zeroCells, hzs, R.len, hl, ← Nat.add_mul]
      congr 1
      omega
    · simp only [Array.toList_append, List.append_assoc]
      rw [← List.append_assoc, ← hlen]
      exact List.take_left
    rotate_left
    · have hb := ((Below.refl w.heap.size w).drew).alloc (Nat.le_refl _) (.cells (xs.toArray ++ news.toArray ++ Builtin.zeroCells z.cells (grownCap w (n + m) old e - (n + m))) e)
      have hk := Blk.new w.drew e (xs.toArray ++ news.toArray ++ Builtin.zeroCells z.cells (grownCap w (n + m) old e - (n + m)))
      refine ⟨hb.mono (Nat.zero_le _), .inl rfl, hk.lt, fun k hk _ => hb.block k hk, fun x hx hne => ?_⟩
      simp only [List.mem_append, List.mem_cons] at hx ⊢
      rcases hx with hx | rfl | hx
      · exact .inl hx
      · exact absurd rfl hne
      · exact .inr (.inr hx)
    · refine (hX _ rfl).cons (((Below.refl w.heap.size w).drew).alloc (Nat.le_refl _) _) ?_
      have := Blk.new w.drew e (xs.toArray ++ news.toArray ++ Builtin.zeroCells z.cells (grownCap w (n + m) old e - (n + m)))
      rw [Array.toArray_toList]
      exact this
  rcases R.or_ with ⟨rfl, rfl⟩ | ⟨g, cap, rfl, hnc, hcm, hcs, htake⟩
  · have hx : xs = [] := List.eq_nil_of_length_eq_zero (by simpa using R.len)
    subst hx
    have hr := run_append_nil (P := P) w t ty e i z ht hi hz ⟨b, 0, none⟩ m c news hl hn' (by omega) (by omega) (by have hb := hbytes; simp only [Nat.zero_add] at hb; omega)
    obtain ⟨cur', w', rfl, h2, h3, h4⟩ := new 0 (fun k hk => by subst hk; exact H)
    simp only [Nat.zero_add, List.nil_append, Array.empty_append] at h2 h3 h4 ⊢
    exact ⟨_, cur', _, hr, h2, h3, _, h4⟩
  · by_cases hroom : n + m ≤ cap
    · have hb : Blk w g e cur.toArray := (H.blk (g, e, cur) (by simp [rowE])).2
      have hfit : n * i.size + news.length ≤ cur.toArray.size := by simp only [List.size_toArray]; rw [hl, hcs, ← Nat.add_mul]; exact Nat.mul_le_mul_right _ hroom
      have hr := run_append_room (P := P) w t ty e i ht hi g n cap cur.toArray hb ⟨b, 0, none⟩ m c news hl hn' h1 hroom hfit
      refine ⟨_, (cur.toArray.toList.take (n * i.size) ++ news ++ cur.toArray.toList.drop (n * i.size + news.length)), _, hr, ⟨hlen, .inr ⟨g, cap, rfl, hroom, hcm, ?_, ?_⟩⟩, ?_, g, ?_⟩
      · simp only [List.size_toArray] at hfit
        simp only [List.length_append, List.length_take, List.length_drop]
        omega
      · show List.take _ _ = _
        rw [show cur.toArray.toList.take (n * i.size) = xs from htake, ← hlen]
        exact List.take_left
      · have hu : Upd (X ++ ([(g, e, cur)] ++ T)) g e cur (cur.toArray.toList.take (n * i.size) ++ news ++ cur.toArray.toList.drop (n * i.size + news.length)) (X ++ ([(g, e, cur.toArray.toList.take (n * i.size) ++ news ++ cur.toArray.toList.drop (n * i.size + news.length))] ++ T)) := Upd.mid X
        exact H.stored hu ⟨⟨rfl, rfl, rfl, by simp, fun k hk => absurd hk (by omega)⟩, fun k _ hk => setRow_other w g k _ hk⟩ (setRow_heap w g cur.toArray _ e _ hb)
      · refine ⟨⟨rfl, rfl, rfl, by simp, fun k hk => absurd hk (by omega)⟩, .inr ⟨(g, e, cur), by simp [rowE], rfl⟩, by simpa using hb.lt, fun k _ hk => setRow_other w g k _ hk, fun x hx hne => ?_⟩
        simp only [rowE, List.mem_append, List.mem_singleton] at hx ⊢
        rcases hx with hx | rfl | hx
        · exact .inl hx
        · exact absurd rfl hne
        · exact .inr (.inr hx)
    · have hb : Blk w g e cur.toArray := (H.blk (g, e, cur) (by simp [rowE])).2
      have holds : ∀ j u, xs[j]? = some u → w.cell? ((⟨g, 0, none⟩ : Addr).add j) = some u := fun j u hu => by
        rw [Addr.add_lit, Nat.zero_add, hb.cell]
        rw [← htake, List.getElem?_take] at hu
        split at hu
        · simpa using hu
        · cases hu
      have hr := run_append_grow (P := P) w t ty e i z ht hi hz ⟨g, 0, none⟩ n cap xs R.len holds ⟨b, 0, none⟩ m c news hl hn' (by omega) (by omega) (growslice_fits (by omega) hbytes)
      obtain ⟨cur', w', rfl, h2, h3, h4⟩ := new cap (fun k hk => by
        subst hk
        exact H.sub (List.Sublist.append (List.Sublist.refl _) (List.sublist_append_right _ _)))
      exact ⟨_, cur', _, hr, h2, h3, _, h4⟩
/-- What a type's row in the table says. -/
structure InfoT (P : Program) (e : TypeId) (size bytes : Nat) : Prop where
  h : ∃ i z, P.info? e = some i ∧ i.zero = some z ∧ i.size = size ∧ i.bytes = bytes ∧ z.cells.size = size
/-- append of what lies in a block of the call's own (a literal's, say) to a slice whose row is the call's own. -/
theorem wpList_appH {ops : Array Oper} {rest : List Oper} {o : Oper} {a : Act} {l : Ents} {Q : Exit → Act → World → Prop} {size bytes b m c : Nat} {t e2 : TypeId} {news : List Value} (X T : Ents) (H : Hid (Hp w0 w l)) (R : Hid (RowV size v n xs cur)) (hl : l = X ++ (rowE v e cur ++ T)) (I : InfoT P e size bytes) (hsz : 0 < size) (ht : P.underlying t = some (.slice e)) (hgd : o.guard = none) {s x : Operand}
    (ho : o.op = .call { callee := .builtin .append, args := #[s, x], argTypes := #[t, t] }) (hs : a.eval s = v) (hx : a.eval x = .slice (some ⟨b, 0, none⟩) m c) (hm : (b, e2, news) ∈ l) (hn : news.length = m * size) (h1 : news.all (·.oneCell') = true) (h0 : 0 < m) (h63 : n + m ≤ maxLen) (hb : (n + m) * bytes ≤ 140737488355328)
    (hK : ∀ v' cur' W', Hid (RowV size v' (n + m) (xs ++ news) cur') → Hid (Hp w0 W' (X ++ (rowE v' e cur' ++ T))) → wpList P ops Q rest (a.put o.dst v') W') : wpList P ops Q (o :: rest) a w := by
  subst hl
  obtain ⟨i, z, hi, hz, rfl, rfl, hzs⟩ := I.h
  have hk := (H.out.get hm).out
  obtain ⟨v', cur', w', hr, h2, h3, _⟩ := run_append_H (P := P) t o.type i z ht hi hz hzs hsz H.out R.out b m c news hn (fun j u hu => by rw [hk.cell]; simpa using hu) (fun u hu => List.all_eq_true.1 h1 u hu) h0 h63 hb
  refine wpList_plain hgd fun _ hK2 => ?_
  unfold Oper.wp execOp
  simp only [ho, resolve, invoke, builtin, Sem.run_bind, Sem.run_pure, Result.andThen_ok, List.map_toArray, List.map_cons, List.map_nil, hs, hx, hr]
  exact hK2 _ _ (hK v' cur' w' (Lib.hid h2) (Lib.hid h3))
end
end Go.Proofs.Ythepafendopfhaa
