/- Words for memory that the walks of this seat share: slices of integers, a stream's block, frames. No program. -/
import Derived.WalkKit
import Derived.WalkSpells
import Derived.WalkLawsBesides
import Derived.Deep.LoopGhost
import Derived.Deep.OwnRows
import Derived.Deep.AppendLies
import Derived.Maps.AppendAt
import Derived.Lib.Hide
namespace Go.Proofs.Ythepafendopfhaa
open Go.RowKit

theorem ret_int {k : IntKind} {a b : Int} (h : a = b) : Ending.returned (.int k a) = .returned (.int k b) := by rw [h]
theorem ret_bool {a b : Bool} (h : a = b) : Ending.returned (.bool a) = .returned (.bool b) := by rw [h]
theorem below_drewN {B : Nat} {a w : World} (h : Below B a w) (n : Nat) : Below B a (w.drewN n) := ⟨h.os, h.tape, h.output, h.size, h.block⟩
theorem bcell {W w1 : World} (hb : Below W.heap.size W w1) : (∀ b o, b < W.heap.size → w1.cell? ⟨b, o, none⟩ = W.cell? ⟨b, o, none⟩) ∧ (∀ b o, b < W.heap.size → w1.frozen? ⟨b, o, none⟩ = W.frozen? ⟨b, o, none⟩) :=
  ⟨fun b o h => hb.cell (p := ⟨b, o, none⟩) h, fun b o h => hb.frozen (p := ⟨b, o, none⟩) h⟩

/-- A bool that says whether something holds. -/
def Says (r : Bool) (p : Prop) : Prop := r = true ↔ p
theorem Says.t {p : Prop} (h : p) : Says true p := ⟨fun _ => h, fun _ => rfl⟩
theorem Says.f {p : Prop} (h : ¬ p) : Says false p := ⟨fun e => Bool.noConfusion e, fun e => absurd e h⟩

theorem Says.no {r : Bool} {p : Prop} (h : Says r p) (hn : ¬ p) : r = false := by
  cases r with
  | false => rfl
  | true => exact absurd (h.1 rfl) hn

/-! A block that is known whole -/
def Blk (w : World) (g : Nat) (t : TypeId) (cs : Array Value) : Prop := w.heap[g]? = some (.cells cs t (0, 0))
section
variable {w w' : World} {g : Nat} {t : TypeId} {cs : Array Value}
theorem Blk.lt (h : Blk w g t cs) : g < w.heap.size := by
  rcases Nat.lt_or_ge g w.heap.size with hlt | hge
  · exact hlt
  · unfold Blk at h; rw [Array.getElem?_eq_none hge] at h; cases h
theorem Blk.cell (h : Blk w g t cs) (i : Nat) : w.cell? ⟨g, i, none⟩ = cs[i]? := cell_of_row w g i cs t (0, 0) h
theorem Blk.frozen (h : Blk w g t cs) (i : Nat) : w.frozen? ⟨g, i, none⟩ = false := by
  unfold Blk at h
  simp [World.frozen?, h]
theorem Blk.new (w : World) (t : TypeId) (cs : Array Value) : Blk (w.alloc (.cells cs t)) w.heap.size t cs := heap_alloc_new w _
theorem Blk.drew (h : Blk w g t cs) : Blk w.drew g t cs := h
theorem Blk.drewN (h : Blk w g t cs) (n : Nat) : Blk (w.drewN n) g t cs := h
theorem Blk.alloc (h : Blk w g t cs) (o : Obj) : Blk (w.alloc o) g t cs := (Below.heap_alloc w o g h.lt).trans h
theorem Blk.set_ (h : Blk w g t cs) (i : Nat) (u : Value) : Blk (w.setCell ⟨g, i, none⟩ u) g t (cs.setIfInBounds i u) := by
  unfold Blk at h ⊢
  simp [World.setCell, Array.getElem?_modify, h]
theorem Blk.far (h : Blk w g t cs) {p : Addr} (hp : g ≠ p.block) (u : Value) : Blk (w.setCell p u) g t cs := (Below.heap_setCell w p u g hp).trans h
theorem Blk.below {B : Nat} (h : Blk w g t cs) (hb : Below B w w') (hg : g < B) : Blk w' g t cs := (hb.block g hg).trans h
theorem Blk.grown {row : Option Nat} (h : Blk w g t cs) (hb : w.grownBy w' row) (hg : some g ≠ row) : Blk w' g t cs := (hb.block g h.lt hg).trans h
theorem Blk.ne_ {g' : Nat} {t' : TypeId} {cs' : Array Value} (h : Blk w g t cs) (h' : Blk w g' t' cs') (hne : t ≠ t') : g ≠ g' := by
  rintro rfl
  unfold Blk at h h'
  rw [h] at h'
  injection h' with h'
  injection h' with _ ht
  exact hne ht
theorem own_blk_ne {base : Nat} {e : TypeId} {size n : Nat} {v : Value} {xs : List Value} (h : w.ownsRow base e size v n xs) (hg : Blk w g t cs) (hne : e ≠ t) : v.ownBlock ≠ some g := by
  rcases h.2 with ⟨rfl, _⟩ | ⟨g', cap, cur, rfl, _, hh, _⟩
  · simp [Value.ownBlock]
  · intro he
    have : g' = g := by simpa [Value.ownBlock] using he
    subst this
    exact Blk.ne_ (t := e) hh hg hne rfl
end

/-! A slice of integers that reads as a list -/
def RI (w : World) (A : Option Addr) (xs : List Int) : Prop :=
  0 < xs.length → ∃ b o, A = some ⟨b, o, none⟩ ∧ b < w.heap.size ∧ ∀ j x, xs[j]? = some x → w.cell? ⟨b, o + j, none⟩ = some (.int .i64 x)
section
variable {w w' : World} {A : Option Addr} {xs : List Int}
theorem RI.nil (w : World) (A : Option Addr) : RI w A [] := fun h => absurd h (by simp)
theorem RI.keep (h : RI w A xs) (hz : w.heap.size ≤ w'.heap.size) (hk : ∀ (b o : Nat) (x : Int), b < w.heap.size → w.cell? ⟨b, o, none⟩ = some (.int .i64 x) → w'.cell? ⟨b, o, none⟩ = some (.int .i64 x)) : RI w' A xs := by
  intro hp
  obtain ⟨b, o, rfl, hb, hc⟩ := h hp
  exact ⟨b, o, rfl, by omega, fun j x hj => hk b (o + j) _ hb (hc j x hj)⟩
theorem RI.below (h : RI w A xs) (hb : Below w.heap.size w w') : RI w' A xs :=
  h.keep hb.size fun b o _ hlt hc => (hb.cell (p := ⟨b, o, none⟩) hlt).trans hc
theorem RI.alloc (h : RI w A xs) (o : Obj) : RI (w.alloc o) A xs := h.below ((Below.refl _ _).alloc (Nat.le_refl _) o)
theorem RI.drew (h : RI w A xs) : RI w.drew A xs := h
theorem RI.drewN (h : RI w A xs) (k : Nat) : RI (w.drewN k) A xs := h
/-- What holds no integer may be written. -/
theorem RI.grown (h : RI w A xs) {g : Nat} {t : TypeId} {cs : Array Value} (hg : w.grownBy w' (some g)) (hB : Blk w g t cs) (hno : ∀ (j : Nat) (x : Int), cs[j]? ≠ some (Value.int .i64 x)) : RI w' A xs :=
  h.keep hg.size fun b o x hlt hc => by
    have hne : b ≠ g := by
      rintro rfl
      rw [hB.cell] at hc
      exact hno _ _ hc
    exact (World.cell?_of_block (hg.block b hlt (by simpa using hne))).trans hc
theorem RI.setCell (h : RI w A xs) {g : Nat} {t : TypeId} {cs : Array Value} (hB : Blk w g t cs) (hno : ∀ (j : Nat) (x : Int), cs[j]? ≠ some (Value.int .i64 x)) (i : Nat) (u : Value) : RI (w.setCell ⟨g, i, none⟩ u) A xs :=
  h.grown (g := g) ⟨rfl, rfl, rfl, by simp [World.setCell], fun k _ hk => Below.heap_setCell w ⟨g, i, none⟩ u k (by simpa using hk)⟩ hB hno
theorem RI.at_ {b o j : Nat} {x : Int} (h : RI w (some ⟨b, o, none⟩) xs) (hj : xs[j]? = some x) : w.cell? ⟨b, o + j, none⟩ = some (.int .i64 x) := by
  obtain ⟨b', o', he, _, hc⟩ := h (by have := (List.getElem?_eq_some_iff.1 hj).1; omega)
  cases he
  exact hc j x hj
theorem own_cap {base : Nat} {e : TypeId} {size n c : Nat} {A : Option Addr} {ys : List Value} (h : w.ownsRow base e size (.slice A n c) n ys) : n ≤ c := by
  rcases h.2 with ⟨h1, h2⟩ | ⟨g', cap, cur, h1, _, _, h3, _⟩
  · omega
  · cases h1; exact h3
theorem own_slice {base : Nat} {e : TypeId} {size n : Nat} {v : Value} {ys : List Value} (h : w.ownsRow base e size v n ys) : ∃ A c, v = .slice A n c := by
  rcases h.2 with ⟨h1, h2⟩ | ⟨g', cap, cur, h1, _⟩
  · rw [h2]; exact ⟨_, _, h1⟩
  · exact ⟨_, _, h1⟩
theorem RI.own {base : Nat} {e : TypeId} {n c : Nat} (h : w.ownsRow base e 1 (.slice A n c) n (xs.map (Value.int .i64))) : RI w A xs := by
  intro hp
  have hl : xs.length = n := by simpa using h.1
  obtain ⟨g, cap, hv, _, hlt⟩ := h.form (by omega)
  have hA : A = some ⟨g, 0, none⟩ := by injection hv
  subst hA
  refine ⟨g, 0, rfl, hlt, fun j x hj => ?_⟩
  have := h.cells (g := g) rfl j (.int .i64 x) (by simp [hj])
  simpa [Addr.add_lit] using this
end

/-! A slice of slices of integers -/
def RII (w : World) (A : Option Addr) (xss : List (List Int)) : Prop :=
  0 < xss.length → ∃ b o, A = some ⟨b, o, none⟩ ∧ b < w.heap.size ∧ ∀ j l, xss[j]? = some l → ∃ Aj cj, w.cell? ⟨b, o + j, none⟩ = some (.slice Aj l.length cj) ∧ RI w Aj l
section
variable {w w' : World} {A : Option Addr} {xss : List (List Int)}
theorem RII.nil (w : World) (A : Option Addr) : RII w A [] := fun h => absurd h (by simp)
theorem RII.below (h : RII w A xss) (hb : Below w.heap.size w w') : RII w' A xss := by
  intro hp
  obtain ⟨b, o, rfl, hlt, hc⟩ := h hp
  refine ⟨b, o, rfl, Nat.lt_of_lt_of_le hlt hb.size, fun j l hj => ?_⟩
  obtain ⟨Aj, cj, h1, h2⟩ := hc j l hj
  exact ⟨Aj, cj, (hb.cell (p := ⟨b, o + j, none⟩) hlt).trans h1, h2.below hb⟩
theorem RII.alloc (h : RII w A xss) (o : Obj) : RII (w.alloc o) A xss := h.below ((Below.refl _ _).alloc (Nat.le_refl _) o)
theorem RII.drew (h : RII w A xss) : RII w.drew A xss := h
theorem RII.drewN (h : RII w A xss) (k : Nat) : RII (w.drewN k) A xss := h
end

theorem some_at {α : Type} {l : List α} {k : Nat} (h : k < l.length) : ∃ x, l[k]? = some x := ⟨_, List.getElem?_eq_getElem h⟩
theorem lt_of_at {α : Type} {l : List α} {k : Nat} {x : α} (h : l[k]? = some x) : k < l.length := (List.getElem?_eq_some_iff.1 h).1

/-- For each step earlier ones, in increasing order. -/
def Valid (xss : List (List Int)) : Prop :=
  xss.length ≤ 40 ∧ ∀ (k : Nat) (l : List Int), xss[k]? = some l → (∀ (i : Nat) (x : Int), l[i]? = some x → 0 ≤ x ∧ x < k) ∧ ∀ (i : Nat) (x y : Int), l[i]? = some x → l[i + 1]? = some y → x < y
theorem Valid.len {xss : List (List Int)} (h : Valid xss) {k : Nat} {l : List Int} (hk : xss[k]? = some l) : l.length ≤ k := by
  obtain ⟨h1, h2⟩ := h.2 k l hk
  have : ∀ (i : Nat) (x : Int), l[i]? = some x → (i : Int) ≤ x := by
    intro i
    induction i with
    | zero => intro x hi; have := (h1 0 x hi).1; omega
    | succ i ih =>
      intro x hi
      obtain ⟨y, hy⟩ := some_at (l := l) (k := i) (by have := lt_of_at hi; omega)
      have := ih y hy
      have := h2 i y x hy hi
      omega
  rcases Nat.lt_or_ge k l.length with hlt | hge
  · obtain ⟨x, hx⟩ := some_at hlt
    have a := this k x hx; have b := (h1 k x hx).2; omega
  · exact hge

theorem ite_max (a b : Int) : (if a < b then b else a) = max a b := by split <;> omega
theorem ite_min (a b : Int) : (if b < a then b else a) = min a b := by split <;> omega
/-! The greatest of 0 and some numbers -/
def Mx (E : Int → Int) (l : List Int) (v : Int) : Prop := 0 ≤ v ∧ (∀ x ∈ l, E x ≤ v) ∧ (v = 0 ∨ ∃ x ∈ l, v = E x)
theorem Mx.start (E : Int → Int) (l : List Int) : Mx E (l.take 0) 0 := ⟨by omega, by simp, .inl rfl⟩
theorem Mx.nil (E : Int → Int) : Mx E [] 0 := ⟨by omega, by simp, .inl rfl⟩
theorem Mx.snoc' {E : Int → Int} {l : List Int} {v : Int} (h : Mx E l v) (x : Int) : Mx E (l ++ [x]) (max v (E x)) := by
  obtain ⟨h0, h1, h2⟩ := h
  refine ⟨by omega, fun y hy => ?_, ?_⟩
  · rcases List.mem_append.1 hy with hy | hy
    · have := h1 y hy; omega
    · have : y = x := by simpa using hy
      subst this; omega
  · by_cases hc : v ≤ E x
    · exact .inr ⟨x, by simp, by omega⟩
    · rcases h2 with h2 | ⟨y, hy, h2⟩
      · exact .inl (by omega)
      · exact .inr ⟨y, by simp [hy], by omega⟩
theorem Mx.snoc {E : Int → Int} {l : List Int} {i : Nat} {v x : Int} (h : Mx E (l.take i) v) (hx : l[i]? = some x) : Mx E (l.take (i + 1)) (max v (E x)) := by
  rw [List.take_add_one, hx]
  exact h.snoc' x
theorem Mx.uniq {E E' : Int → Int} {l : List Int} {v v' : Int} (h : Mx E l v) (h' : Mx E' l v') (he : ∀ x ∈ l, E x = E' x) : v = v' := by
  obtain ⟨h0, h1, h2⟩ := h
  obtain ⟨h0', h1', h2'⟩ := h'
  have a : v ≤ v' := by
    rcases h2 with h2 | ⟨y, hy, h2⟩
    · omega
    · have := h1' y hy; have := he y hy; omega
  have b : v' ≤ v := by
    rcases h2' with h2 | ⟨y, hy, h2⟩
    · omega
    · have := h1 y hy; have := he y hy; omega
  omega
theorem Mx.congr {E E' : Int → Int} {l : List Int} {v : Int} (h : Mx E l v) (he : ∀ x ∈ l, E x = E' x) : Mx E' l v := by
  obtain ⟨h0, h1, h2⟩ := h
  refine ⟨h0, fun x hx => by rw [← he x hx]; exact h1 x hx, ?_⟩
  rcases h2 with h2 | ⟨y, hy, h2⟩
  · exact .inl h2
  · exact .inr ⟨y, hy, by rw [← he y hy]; exact h2⟩

/-! append of one element of one cell onto a row of the call's own -/
theorem wpList_append_one {P : Program} (w : World) {ops : Array Oper} {rest : List Oper} {o : Oper} {a : Act} {Q : Exit → Act → World → Prop} (hgd : o.guard = none) (s x : Operand) (t : TypeId)
    (ho : o.op = .call { callee := .builtin .append, args := #[s, x], argTypes := #[t, t] })
    (base : Nat) (e : TypeId) (i : TypeInfo) (z : Value) (bytes : Nat) (ht : P.underlying t = some (.slice e)) (hi : P.info? e = some i) (hz : i.zero = some z)
    (hsize : i.size = 1) (hby : i.bytes = bytes) (hzs : z.cells.size = 1)
    (v : Value) (n : Nat) (xs : List Value) (hs : a.eval s = v) (hown : w.ownsRow base e 1 v n xs)
    (g : Nat) (u : Value) (hx : a.eval x = .slice (some ⟨g, 0, none⟩) 1 1) (hu : w.cell? ⟨g, 0, none⟩ = some u) (h1 : u.oneCell' = true)
    (h63 : n + 1 ≤ maxLen) (hbytes : (n + 1) * bytes ≤ 140737488355328) (hbase : base ≤ w.heap.size)
    (h : ∀ v' w', w'.ownsRow base e 1 v' (n + 1) (xs ++ [u]) → w.grownBy w' v.ownBlock → wpList P ops Q rest (a.put o.dst v') w') : wpList P ops Q (o :: rest) a w :=
  wpList_append_own w hgd s x t ho base e i z 1 bytes ht hi hz hsize hby hzs (by omega) v n xs hs hown ⟨g, 0, none⟩ 1 1 [u] hx rfl
    (fun j u' hj => by
      rcases j with _ | j
      · simp at hj; subst hj; simpa [Addr.add_lit] using hu
      · simp at hj)
    (fun u' hu' => by simp at hu'; subst hu'; exact h1) h63 hbytes hbase fun v' w' h2 h3 _ => h v' w' h2 h3
/-- Behind such an append: below the base nothing has turned. -/
theorem below_append {B : Nat} {a w w' : World} {e : TypeId} {size n : Nat} {v : Value} {xs : List Value} (h : Below B a w) (hown : w.ownsRow B e size v n xs) (hg : w.grownBy w' v.ownBlock) (hB : B ≤ w.heap.size) : Below B a w' :=
  h.grown hg hB fun k hk => (hown.lt k hk).1

/-! An array of integers of the call's own, known whole -/
def Arr (w : World) (g : Nat) (t : TypeId) (xs : List Int) : Prop := Blk w g t (xs.map (Value.int .i64)).toArray
section
variable {w w' : World} {g : Nat} {t : TypeId} {xs : List Int}
theorem Arr.lt (h : Arr w g t xs) : g < w.heap.size := Blk.lt h
theorem Arr.at_ (h : Arr w g t xs) {j : Nat} {x : Int} (hj : xs[j]? = some x) : w.cell? ⟨g, j, none⟩ = some (.int .i64 x) := by
  rw [Blk.cell h]; simp [hj]
theorem Arr.frozen (h : Arr w g t xs) (j : Nat) : w.frozen? ⟨g, j, none⟩ = false := Blk.frozen h j
theorem Arr.drew (h : Arr w g t xs) : Arr w.drew g t xs := h
theorem Arr.drewN (h : Arr w g t xs) (n : Nat) : Arr (w.drewN n) g t xs := h
theorem Arr.set_ (h : Arr w g t xs) (j : Nat) (y : Int) : Arr (w.setCell ⟨g, j, none⟩ (.int .i64 y)) g t (xs.set j y) := by
  have := Blk.set_ h j (.int .i64 y)
  unfold Arr
  have e : ((xs.map (Value.int .i64)).toArray.setIfInBounds j (.int .i64 y)) = ((xs.set j y).map (Value.int .i64)).toArray := by
    apply Array.ext'
    simp [List.map_set]
  rwa [e] at this
theorem Arr.alloc (h : Arr w g t xs) (o : Obj) : Arr (w.alloc o) g t xs := Blk.alloc h o
theorem Arr.below {B : Nat} (h : Arr w g t xs) (hb : Below B w w') (hg : g < B) : Arr w' g t xs := Blk.below h hb hg
theorem Arr.grown {row : Option Nat} (h : Arr w g t xs) (hb : w.grownBy w' row) (hg : some g ≠ row) : Arr w' g t xs := Blk.grown h hb hg
theorem Arr.far (h : Arr w g t xs) {p : Addr} (hp : g ≠ p.block) (u : Value) : Arr (w.setCell p u) g t xs := Blk.far h hp u
theorem Arr.made (w : World) (n : Nat) : Arr (w.alloc (.cells (madeCells #[.int .i64 0] n) t)) w.heap.size t (List.replicate n 0) := by
  have : madeCells #[.int .i64 0] n = ((List.replicate n 0).map (Value.int .i64)).toArray := by
    apply Array.ext
    · simp [size_madeCells]
    · intro i h1 h2
      simp [madeCells, Nat.mod_one]
  unfold Arr
  rw [this]
  exact Blk.new _ _ _
theorem Arr.ri (h : Arr w g t xs) : RI w (some ⟨g, 0, none⟩) xs := fun _ => ⟨g, 0, rfl, h.lt, fun j x hj => by rw [Nat.zero_add]; exact h.at_ hj⟩
end

theorem wf_bd {a : Int} (h : (Lit.int .i64 a).wf = true) : -9223372036854775808 ≤ a ∧ a ≤ 9223372036854775807 := by
  simpa [Lit.wf, IntKind.min, IntKind.max, IntKind.signed, IntKind.bits] using h
end Go.Proofs.Ythepafendopfhaa
