/- The walks of tools.Valid, tools.Clash and tools.Check. -/
import Derived.Test.YtnmngjikcimpnaaMake
import Derived.BigGuardPart
namespace Go.Proofs.Ytnmngjikcimpnaa
open Go.RowKit
set_option linter.unusedVariables false

structure Use where
  tool : Int
  from_ : Int
  long : Int

def Use.ok (u : Use) : Prop := 0 ≤ u.tool ∧ u.tool < 6 ∧ 0 ≤ u.from_ ∧ 1 ≤ u.long ∧ u.long ≤ 2000 ∧ u.from_ ≤ 2000 - u.long
def Use.meets (a b : Use) : Prop := a.tool = b.tool ∧ a.from_ < b.from_ + b.long ∧ b.from_ < a.from_ + a.long
def Use.val (u : Use) : Value := .agg #[.int .i64 u.tool, .int .i64 u.from_, .int .i64 u.long]

set_option maxHeartbeats 1000000 in
theorem valid_any (t f l : Int) (w : World) (r : Bool) (hr : Says r (Use.ok ⟨t, f, l⟩)) :
    Calls Try.prog 29 #[.agg #[.int .i64 t, .int .i64 f, .int .i64 l]] w fun e w' => e = .returned (.bool r) ∧ w.alloc (.cells #[.int .i64 t, .int .i64 f, .int .i64 l] 40) = w' := by
  have no : ¬ Use.ok ⟨t, f, l⟩ → Hid (r = false) := fun h => by
    cases r with
    | false => rfl
    | true => exact absurd (hr.1 rfl) h
  have No := Lib.hid no
  clear no
  by_cases a1 : 0 ≤ t
  · by_cases a2 : t < 6
    · by_cases a3 : 0 ≤ f
      · by_cases a4 : 1 ≤ l
        · by_cases a5 : l ≤ 2000
          · by_cases a6 : f ≤ 2000 - l
            · have H : Hid (r = true) := hr.2 ⟨a1, a2, a3, a4, a5, a6⟩
              go_enter Try.func29, Try.ntmps29
              go_wp2
              go_ret
              exact ⟨ret_bool H.out.symm, rfl⟩
            · have H := No.out (fun h => a6 h.2.2.2.2.2)
              go_enter Try.func29, Try.ntmps29
              go_wp2
              go_ret
              exact ⟨ret_bool H.out.symm, rfl⟩
          · have H := No.out (fun h => a5 h.2.2.2.2.1)
            go_enter Try.func29, Try.ntmps29
            go_wp2
            go_ret
            exact ⟨ret_bool H.out.symm, rfl⟩
        · have H := No.out (fun h => a4 h.2.2.2.1)
          go_enter Try.func29, Try.ntmps29
          go_wp2
          go_ret
          exact ⟨ret_bool H.out.symm, rfl⟩
      · have H := No.out (fun h => a3 h.2.2.1)
        go_enter Try.func29, Try.ntmps29
        go_wp2
        go_ret
        exact ⟨ret_bool H.out.symm, rfl⟩
    · have H := No.out (fun h => a2 h.2.1)
      go_enter Try.func29, Try.ntmps29
      go_wp2
      go_ret
      exact ⟨ret_bool H.out.symm, rfl⟩
  · have H := No.out (fun h => a1 h.1)
    go_enter Try.func29, Try.ntmps29
    go_wp2
    go_ret
    exact ⟨ret_bool H.out.symm, rfl⟩

theorem below_alloc2 (w : World) (a b : Obj) : Below w.heap.size w ((w.alloc a).alloc b) := ((Below.refl _ _).alloc (Nat.le_refl _) a).alloc (by simp) b
theorem below_alloc3 (w : World) (a b c : Obj) : Below w.heap.size w (((w.alloc a).alloc b).alloc c) := (below_alloc2 w a b).alloc (by simp; omega) c
theorem below_alloc4 (w : World) (a b c d : Obj) : Below w.heap.size w ((((w.alloc a).alloc b).alloc c).alloc d) := (below_alloc3 w a b c).alloc (by simp; omega) d

set_option maxHeartbeats 1000000 in
theorem clash_any (a b : Use) (w : World) (r : Bool) (hr : Says r (a.ok ∧ b.ok ∧ a.meets b)) :
    Calls Try.prog 30 #[.agg #[.int .i64 a.tool, .int .i64 a.from_, .int .i64 a.long], .agg #[.int .i64 b.tool, .int .i64 b.from_, .int .i64 b.long]] w fun e w' => e = .returned (.bool r) ∧ Below w.heap.size w w' := by
  obtain ⟨t, f, l⟩ := a
  obtain ⟨t', f', l'⟩ := b
  have no : ¬ (Use.ok ⟨t, f, l⟩ ∧ Use.ok ⟨t', f', l'⟩ ∧ Use.meets ⟨t, f, l⟩ ⟨t', f', l'⟩) → Hid (r = false) := fun h => by
    cases r with
    | false => rfl
    | true => exact absurd (hr.1 rfl) h
  have No := Lib.hid no
  clear no
  dsimp only
  by_cases a1 : Use.ok ⟨t, f, l⟩
  · have V1 : Says true (Use.ok ⟨t, f, l⟩) := ⟨fun _ => a1, fun _ => rfl⟩
    by_cases a2 : Use.ok ⟨t', f', l'⟩
    · have V2 : Says true (Use.ok ⟨t', f', l'⟩) := ⟨fun _ => a2, fun _ => rfl⟩
      obtain ⟨p1, p2, p3, p4, p5, p6⟩ := a1
      obtain ⟨q1, q2, q3, q4, q5, q6⟩ := a2
      dsimp only at p1 p2 p3 p4 p5 p6 q1 q2 q3 q4 q5 q6
      by_cases a3 : t = t'
      · subst a3
        have hq : (t == t) = true := by simp
        by_cases a4 : f < f' + l'
        · by_cases a5 : f' < f + l
          · have H : Hid (r = true) := hr.2 ⟨V1.1 rfl, V2.1 rfl, rfl, a4, a5⟩
            go_enter Try.func30, Try.ntmps30
            go_wp2_with fail
            refine (valid_any _ _ _ _ true V1).mono ?_
            rintro e w' ⟨rfl, rfl⟩
            go_wp2_with fail
            refine (valid_any _ _ _ _ true V2).mono ?_
            rintro e w' ⟨rfl, rfl⟩
            go_wp2_with fail
            go_ret
            exact ⟨ret_bool (by rw [H.out]; try (simp; omega)), below_alloc4 _ _ _ _ _⟩
          · have H := No.out (fun h => a5 h.2.2.2.2)
            go_enter Try.func30, Try.ntmps30
            go_wp2_with fail
            refine (valid_any _ _ _ _ true V1).mono ?_
            rintro e w' ⟨rfl, rfl⟩
            go_wp2_with fail
            refine (valid_any _ _ _ _ true V2).mono ?_
            rintro e w' ⟨rfl, rfl⟩
            go_wp2_with fail
            go_ret
            exact ⟨ret_bool (by rw [H.out]; try (simp; omega)), below_alloc4 _ _ _ _ _⟩
        · have H := No.out (fun h => a4 h.2.2.2.1)
          go_enter Try.func30, Try.ntmps30
          go_wp2_with fail
          refine (valid_any _ _ _ _ true V1).mono ?_
          rintro e w' ⟨rfl, rfl⟩
          go_wp2_with fail
          refine (valid_any _ _ _ _ true V2).mono ?_
          rintro e w' ⟨rfl, rfl⟩
          go_wp2_with fail
          go_ret
          exact ⟨ret_bool (by rw [H.out]; try (simp; omega)), below_alloc4 _ _ _ _ _⟩
      · have H := No.out (fun h => a3 h.2.2.1)
        have hq : (t == t') = false := by simpa using a3
        have A3 := Lib.hid a3
        clear a3
        go_enter Try.func30, Try.ntmps30
        go_wp2_with fail
        refine (valid_any _ _ _ _ true V1).mono ?_
        rintro e w' ⟨rfl, rfl⟩
        go_wp2_with fail
        refine (valid_any _ _ _ _ true V2).mono ?_
        rintro e w' ⟨rfl, rfl⟩
        go_wp2_with fail
        go_ret
        exact ⟨ret_bool (by rw [H.out]; try (simp; omega)), below_alloc4 _ _ _ _ _⟩
    · have V2 : Says false (Use.ok ⟨t', f', l'⟩) := Says.f a2
      have H := No.out (fun h => a2 h.2.1)
      clear a1 a2
      go_enter Try.func30, Try.ntmps30
      go_wp2_with fail
      refine (valid_any _ _ _ _ true V1).mono ?_
      rintro e w' ⟨rfl, rfl⟩
      go_wp2_with fail
      refine (valid_any _ _ _ _ false V2).mono ?_
      rintro e w' ⟨rfl, rfl⟩
      go_wp2_with fail
      go_ret
      exact ⟨ret_bool (by rw [H.out]; try (simp; omega)), below_alloc4 _ _ _ _ _⟩
  · have V1 : Says false (Use.ok ⟨t, f, l⟩) := Says.f a1
    have H := No.out (fun h => a1 h.1)
    clear a1
    go_enter Try.func30, Try.ntmps30
    go_wp2_with fail
    refine (valid_any _ _ _ _ false V1).mono ?_
    rintro e w' ⟨rfl, rfl⟩
    go_wp2_with fail
    go_ret
    exact ⟨ret_bool (by rw [H.out]; try (simp; omega)), below_alloc3 _ _ _ _⟩

/-- A slice of uses that reads as a list. -/
def RU (w : World) (A : Option Addr) (us : List Use) : Prop :=
  0 < us.length → ∃ b o, A = some ⟨b, o, none⟩ ∧ b < w.heap.size ∧ ∀ (j : Nat) (u : Use), us[j]? = some u →
    w.cell? ⟨b, o + j * 3, none⟩ = some (.int .i64 u.tool) ∧ w.cell? ⟨b, o + j * 3 + 1, none⟩ = some (.int .i64 u.from_) ∧ w.cell? ⟨b, o + j * 3 + 2, none⟩ = some (.int .i64 u.long)
theorem RU.below {w w' : World} {A : Option Addr} {us : List Use} (h : RU w A us) (hb : Below w.heap.size w w') : RU w' A us := by
  intro hp
  obtain ⟨b, o, rfl, hlt, hc⟩ := h hp
  refine ⟨b, o, rfl, Nat.lt_of_lt_of_le hlt hb.size, fun j u hu => ?_⟩
  obtain ⟨h1, h2, h3⟩ := hc j u hu
  exact ⟨(hb.cell (p := ⟨b, _, none⟩) hlt).trans h1, (hb.cell (p := ⟨b, _, none⟩) hlt).trans h2, (hb.cell (p := ⟨b, _, none⟩) hlt).trans h3⟩

/-- No use is bad, no two meet. -/
def Good (us : List Use) : Prop := us.length ≤ 60 ∧ ∀ (i : Nat) (u : Use), us[i]? = some u → u.ok ∧ ∀ (j : Nat) (v : Use), j < i → us[j]? = some v → ¬ u.meets v

def GoodTo (us : List Use) (k : Nat) : Prop := ∀ (i : Nat) (u : Use), i < k → us[i]? = some u → u.ok ∧ ∀ (j : Nat) (v : Use), j < i → us[j]? = some v → ¬ u.meets v

set_option maxHeartbeats 1000000 in
set_option maxRecDepth 100000 in
theorem checkU_any (A : Option Addr) (c n : Nat) (us : List Use) (w : World) (hn : us.length = n) (hc : n ≤ c) (hm : n ≤ maxLen) (hR : RU w A us) :
    Calls Try.prog 28 #[.slice A n c] w fun e w' => ∃ r, e = .returned (.int .i64 r) ∧ (Good us ↔ r = 0) ∧ Below w.heap.size w w' := by
  subst hn
  unfold maxLen at hm
  have HR := Lib.hid hR
  clear hR
  by_cases h60 : us.length ≤ 60
  · go_enter Try.func28, Try.ntmps28
    go_wp2_with fail
    go_loopw [12] (fun i wr => ∃ k : Nat, k ≤ us.length ∧ i = .int .i64 k ∧ Hid (GoodTo us k) ∧ Below w.heap.size w wr) (fun i _ => us.length - (intOf i).toNat)
    case atStart => exact ⟨0, by omega, rfl, fun i u hi => absurd hi (by omega), Below.refl _ _⟩
    case round =>
      obtain ⟨k, hk, rfl, hg, hbl⟩ := hrel
      have Hbl := Lib.hid hbl
      have hws := hbl.size
      clear hbl
      by_cases hlt : k < us.length
      · obtain ⟨u, hu⟩ := some_at hlt
        obtain ⟨b, o, rfl, hb, hc⟩ := HR.out (by omega)
        obtain ⟨c1', c2', c3'⟩ := hc k u hu
        have c1 := (Hbl.out.cell (p := ⟨b, _, none⟩) hb).trans c1'
        have c2 := (Hbl.out.cell (p := ⟨b, _, none⟩) hb).trans c2'
        have c3 := (Hbl.out.cell (p := ⟨b, _, none⟩) hb).trans c3'
        have hbr : b < wr.heap.size := by omega
        have Hu := Lib.hid hu
        clear hc hu c1' c2' c3'
        by_cases hok : u.ok
        · have V1 : Says true (Use.ok ⟨u.tool, u.from_, u.long⟩) := Says.t hok
          have Hok := Lib.hid hok
          have B1 := Lib.hid (((Hbl.out.alloc hws (.cells #[.int .i64 u.tool, .int .i64 u.from_, .int .i64 u.long] 40)).alloc (by simp; omega) (.cells #[.int .i64 u.tool, .int .i64 u.from_, .int .i64 u.long] 40)))
          have X1 := Lib.hid ((Blk.new wr 40 #[.int .i64 u.tool, .int .i64 u.from_, .int .i64 u.long]).alloc (.cells #[.int .i64 u.tool, .int .i64 u.from_, .int .i64 u.long] 40))
          have R1 := Lib.hid (HR.out.below (by have := B1.out; exact this.mono (Nat.le_refl _)))
          clear hok
          go_wp2_with fail
          refine (valid_any _ _ _ _ true V1).mono ?_
          rintro e w2 ⟨rfl, hw2⟩
          rw [hw2] at B1 X1 R1
          have hs2 : wr.heap.size + 2 = w2.heap.size := by rw [← hw2]; simp
          have hs2' := Nat.le_of_eq hs2
          clear hw2 hs2 c1 c2 c3
          have d0 := X1.out.cell 0
          have d1 := X1.out.cell 1
          have d2 := X1.out.cell 2
          go_wp2_with fail
          obtain ⟨wo, hwo⟩ : ∃ wo : World, wo = wr := ⟨_, rfl⟩
          subst hwo
          go_loopw [24] (fun i wi => ∃ j : Nat, j ≤ k ∧ i = .int .i64 j ∧ Hid (∀ (i : Nat) (v : Use), i < j → us[i]? = some v → ¬ u.meets v) ∧ Below w2.heap.size w2 wi) (fun i _ => k - (intOf i).toNat)
          case atStart => exact ⟨0, by omega, rfl, fun i v hi => absurd hi (by omega), Below.refl _ _⟩
          case round =>
            clear d0 d1 d2
            obtain ⟨j, hj, rfl, hno, hbi⟩ := hrel
            have Hbi := Lib.hid hbi
            have hs3 := hbi.size
            have X2 := Lib.hid (X1.out.below hbi X1.out.lt)
            have d0 := X2.out.cell 0
            have d1 := X2.out.cell 1
            have d2 := X2.out.cell 2
            clear hbi
            by_cases hlt' : j < k
            · obtain ⟨v, hv⟩ := some_at (l := us) (k := j) (by omega)
              obtain ⟨_, _, he, _, hc⟩ := HR.out (by omega)
              cases he
              obtain ⟨c1', c2', c3'⟩ := hc j v hv
              have B2 := Lib.hid (B1.out.trans (Hbi.out.mono (by omega)))
              have c1 := (B2.out.cell (p := ⟨b, _, none⟩) hb).trans c1'
              have c2 := (B2.out.cell (p := ⟨b, _, none⟩) hb).trans c2'
              have c3 := (B2.out.cell (p := ⟨b, _, none⟩) hb).trans c3'
              have hbr2 : b < wr.heap.size := by omega
              have hbr3 : wo.heap.size < wr.heap.size := by omega
              have B3 := Lib.hid (Hbi.out.alloc hs3 (.cells #[.int .i64 v.tool, .int .i64 v.from_, .int .i64 v.long] 40))
              have B4 := Lib.hid (B2.out.alloc (by omega) (.cells #[.int .i64 v.tool, .int .i64 v.from_, .int .i64 v.long] 40))
              have hvok := (hg.out j v hlt' hv).1
              have Hv := Lib.hid hv
              clear hc hv c1' c2' c3'
              by_cases hm : u.meets v
              · have V2 : Says true (u.ok ∧ v.ok ∧ u.meets v) := Says.t ⟨Hok.out, hvok, hm⟩
                have Hm := Lib.hid hm
                clear hm hvok
                go_wp2_with fail
                refine (clash_any u v _ true V2).mono ?_
                rintro e w3 ⟨rfl, hb3⟩
                have B5 := Lib.hid (B4.out.trans (hb3.mono (by simp; omega)))
                clear hb3
                go_wp2_with fail
                go_ret
                exact ⟨10, rfl, ⟨fun h => absurd Hm.out ((h.2 k u Hu.out).2 j v hlt' Hv.out), fun h => by omega⟩, B5.out⟩
              · have V2 : Says false (u.ok ∧ v.ok ∧ u.meets v) := Says.f fun h => hm h.2.2
                have Hm := Lib.hid hm
                clear hm hvok
                go_wp2_with fail
                refine (clash_any u v _ false V2).mono ?_
                rintro e w3 ⟨rfl, hb3⟩
                have B5 := Lib.hid (B3.out.trans (hb3.mono (by simp; omega)))
                clear hb3
                go_wp2_with fail
                go_roundw
                case rel =>
                  refine ⟨j + 1, by omega, by go_num, fun i v' hi hv' => ?_, B5.out⟩
                  by_cases e : i = j
                  · subst e
                    rw [Hv.out] at hv'; cases hv'
                    exact Hm.out
                  · exact hno.out i v' (by omega) hv'
                case measure => simp [intOf]; omega
            · have hjk : j = k := by omega
              subst hjk
              have B2 := Lib.hid (B1.out.trans (Hbi.out.mono (by omega)))
              go_wp2_with fail
              go_roundw
              case rel =>
                refine ⟨j + 1, by omega, by go_num, fun i u' hi hu' => ?_, B2.out⟩
                by_cases e : i = j
                · subst e
                  rw [Hu.out] at hu'; cases hu'
                  exact ⟨Hok.out, fun i v hi hv => hno.out i v hi hv⟩
                · exact hg.out i u' (by omega) hu'
              case measure => simp [intOf]; omega
        · have V1 : Says false (Use.ok ⟨u.tool, u.from_, u.long⟩) := Says.f hok
          have Hok := Lib.hid hok
          have B1 := Lib.hid (((Hbl.out.alloc hws (.cells #[.int .i64 u.tool, .int .i64 u.from_, .int .i64 u.long] 40)).alloc (by simp; omega) (.cells #[.int .i64 u.tool, .int .i64 u.from_, .int .i64 u.long] 40)))
          clear hok
          go_wp2_with fail
          refine (valid_any _ _ _ _ false V1).mono ?_
          rintro e w2 ⟨rfl, rfl⟩
          go_wp2_with fail
          go_ret
          exact ⟨1, rfl, ⟨fun h => absurd (h.2 k u Hu.out).1 Hok.out, fun h => by omega⟩, B1.out⟩
      · have hkx : k = us.length := by omega
        subst hkx
        go_wp2_with fail
        go_ret
        exact ⟨0, rfl, ⟨fun _ => rfl, fun _ => ⟨h60, fun i u hu => hg.out i u (lt_of_at hu) hu⟩⟩, Hbl.out⟩
  · go_enter Try.func28, Try.ntmps28
    go_wp2_with fail
    go_ret
    exact ⟨2, rfl, ⟨fun h => absurd h.1 h60, fun h => by omega⟩, Below.refl _ _⟩
end Go.Proofs.Ytnmngjikcimpnaa
