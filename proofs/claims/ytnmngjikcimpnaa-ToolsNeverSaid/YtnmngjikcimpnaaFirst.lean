/- The walk of tools.First. -/
import Derived.Test.YtnmngjikcimpnaaUse
namespace Go.Proofs.Ytnmngjikcimpnaa
open Go.RowKit
set_option linter.unusedVariables false

/-- at is the first free tick. -/
def IsFirst (us : List Use) (t f l x : Int) : Prop :=
  f ≤ x ∧ (∀ v ∈ us, ¬ Use.meets ⟨t, x, l⟩ v) ∧ (∀ g, f ≤ g → g < x → ∃ v ∈ us, Use.meets ⟨t, g, l⟩ v) ∧ (x = f ∨ ∃ v ∈ us, x = v.from_ + v.long)
theorem IsFirst.uniq {us : List Use} {t f l x y : Int} (h : IsFirst us t f l x) (h' : IsFirst us t f l y) : x = y := by
  obtain ⟨a1, a2, a3, _⟩ := h
  obtain ⟨b1, b2, b3, _⟩ := h'
  rcases Int.lt_trichotomy x y with e | e | e
  · obtain ⟨v, hv, hm⟩ := b3 x a1 e
    exact absurd hm (a2 v hv)
  · exact e
  · obtain ⟨v, hv, hm⟩ := a3 y b1 e
    exact absurd hm (b2 v hv)

/-- So far: from f up to x every tick meets a use. -/
def Moved (us : List Use) (t f l x : Int) : Prop := f ≤ x ∧ (∀ g, f ≤ g → g < x → ∃ v ∈ us, Use.meets ⟨t, g, l⟩ v) ∧ (x = f ∨ ∃ v ∈ us, x = v.from_ + v.long)
theorem Moved.step {us : List Use} {t f l x : Int} {v : Use} (h : Moved us t f l x) (hv : v ∈ us) (hm : Use.meets ⟨t, x, l⟩ v) : Moved us t f l (v.from_ + v.long) ∧ x < v.from_ + v.long := by
  obtain ⟨h1, h2, h3⟩ := h
  obtain ⟨m1, m2, m3⟩ := hm
  dsimp only at m1 m2 m3
  refine ⟨⟨by omega, fun g hg hlt => ?_, .inr ⟨v, hv, rfl⟩⟩, m2⟩
  by_cases hgx : g < x
  · exact h2 g hg hgx
  · exact ⟨v, hv, m1, by dsimp only; omega, by dsimp only; omega⟩

def Either (ch : Bool) (p q : Prop) : Prop := (ch = true → p) ∧ (ch = false → q)
theorem Either.f {p q : Prop} (h : q) : Either false p q := ⟨fun e => Bool.noConfusion e, fun _ => h⟩
theorem Either.t {p q : Prop} (h : p) : Either true p q := ⟨fun _ => h, fun e => Bool.noConfusion e⟩

set_option maxHeartbeats 2000000 in
set_option maxRecDepth 100000 in
theorem first_ok (A : Option Addr) (c n : Nat) (us : List Use) (t f l : Int) (w : World) (hn : us.length = n) (hc : n ≤ c) (hR : RU w A us) (hg : Good us) (hu : Use.ok ⟨t, f, l⟩) (hfit : ∀ v ∈ us, v.from_ + v.long ≤ 2000 - l) :
    Calls Try.prog 16 #[.slice A n c, .int .i64 t, .int .i64 f, .int .i64 l] w fun e w' => ∃ x, e = .returned (.tuple #[.int .i64 x, .int .i64 0]) ∧ IsFirst us t f l x ∧ Below w.heap.size w w' := by
  subst hn
  have hm : us.length ≤ maxLen := by have := hg.1; unfold maxLen; omega
  have h60 := hg.1
  have HR := Lib.hid hR
  have HG := Lib.hid hg
  have HF := Lib.hid hfit
  have HU := Lib.hid hu
  clear hR hg hfit hu
  go_enter Try.func16, Try.ntmps16
  go_wp2_with fail
  refine (checkU_any _ _ _ us _ rfl hc hm HR.out).mono ?_
  rintro e w1 ⟨r, rfl, hr, hb1⟩
  obtain rfl := hr.1 HG.out
  have B1 := Lib.hid hb1
  have hs1 := hb1.size
  have V1 : Says true (Use.ok ⟨t, f, l⟩) := Says.t HU.out
  clear hr hb1
  go_wp2_with fail
  refine (valid_any _ _ _ _ true V1).mono ?_
  rintro e w2 ⟨rfl, hw2⟩
  have B2 := Lib.hid ((((Below.refl w1.heap.size w1).alloc (Nat.le_refl _) (.cells #[.int .i64 t, .int .i64 f, .int .i64 l] 40)).alloc (by simp) (.cells #[.int .i64 t, .int .i64 f, .int .i64 l] 40)))
  have X2 := Lib.hid ((Blk.new w1 40 #[.int .i64 t, .int .i64 f, .int .i64 l]).alloc (.cells #[.int .i64 t, .int .i64 f, .int .i64 l] 40))
  rw [hw2] at B2 X2
  obtain ⟨bx, hbx⟩ : ∃ bx, bx = w1.heap.size := ⟨_, rfl⟩
  rw [← hbx] at B2 X2 ⊢
  have hwb : w.heap.size ≤ bx := by omega
  have Hbx := Lib.hid hbx
  clear hw2 hbx hs1
  go_wp2_with fail
  go_loopg [12] (4002 - 2 * f.toNat + 1) (fun m a wr => ∃ (x : Int) (again : Bool), a = .bool again ∧ Hid (Moved us t f l x) ∧ f ≤ x ∧ x ≤ 2000 - l ∧ m = 4002 - 2 * x.toNat + again.toNat ∧ Either again True (∀ v ∈ us, ¬ Use.meets ⟨t, x, l⟩ v) ∧ Blk wr bx 40 #[.int .i64 t, .int .i64 x, .int .i64 l] ∧ Below bx w1 wr)
  case atStart => exact ⟨f, true, rfl, ⟨by omega, fun g h1 h2 => by omega, .inl rfl⟩, by omega, HU.out.2.2.2.2.2, rfl, .t trivial, X2.out, B2.out⟩
  case round =>
    obtain ⟨x, again, rfl, hmv, hfx, hx, hgk, hno, hX, hB⟩ := hrel
    have HX := Lib.hid hX
    have HB := Lib.hid hB
    have Hgk := Lib.hid hgk
    clear hX hB hgk
    obtain ⟨u1, u2, u3, u4, u5, u6⟩ := HU.out
    dsimp only at u1 u2 u3 u4 u5 u6
    rcases again with _ | _
    · have d1 := HX.out.cell 1
      go_wp2_with fail
      go_ret2
      exact ⟨x, rfl, ⟨hfx, hno.2 rfl, hmv.out.2.1, hmv.out.2.2⟩, B1.out.trans (HB.out.mono hwb)⟩
    · go_wp2_with fail
      obtain ⟨wo, hwo⟩ : ∃ wo : World, wo = wr := ⟨_, rfl⟩
      subst hwo
      go_loopw [12, 30] (fun a i wr => ∃ (j : Nat) (y : Int) (ch : Bool), j ≤ us.length ∧ i = .int .i64 j ∧ a = .bool ch ∧ Hid (Moved us t f l y) ∧ x ≤ y ∧ y ≤ 2000 - l ∧ Either ch (x < y) (y = x ∧ ∀ v ∈ us.take j, ¬ Use.meets ⟨t, x, l⟩ v) ∧ Blk wr bx 40 #[.int .i64 t, .int .i64 y, .int .i64 l] ∧ Below bx w1 wr) (fun _ i _ => us.length - (intOf i).toNat)
      case atStart => exact ⟨0, x, false, by omega, rfl, rfl, hmv, by omega, by omega, .f ⟨rfl, by simp⟩, HX.out, HB.out⟩
      case round =>
        clear HX HB
        obtain ⟨j, y, ch, hj, rfl, rfl, hmy, hxy, hy, hch, hX, hB⟩ := hrel
        have HX := Lib.hid hX
        have HB := Lib.hid hB
        have d0 := hX.cell 0
        have d1 := hX.cell 1
        have d2 := hX.cell 2
        have hbl := hX.lt
        clear hX hB
        by_cases hlt : j < us.length
        · obtain ⟨v, hv⟩ := some_at hlt
          obtain ⟨b, o, rfl, hb, hc⟩ := HR.out (by omega)
          obtain ⟨c1', c2', c3'⟩ := hc j v hv
          have B2 := Lib.hid (B1.out.trans (HB.out.mono hwb))
          have c1 := (B2.out.cell (p := ⟨b, _, none⟩) hb).trans c1'
          have c2 := (B2.out.cell (p := ⟨b, _, none⟩) hb).trans c2'
          have c3 := (B2.out.cell (p := ⟨b, _, none⟩) hb).trans c3'
          have hbr : b < wr.heap.size := by omega
          have hvm := List.mem_of_getElem? hv
          have Hv := Lib.hid hv
          have hvok := (HG.out.2 j v hv).1
          obtain ⟨q1, q2, q3, q4, q5, q6⟩ := hvok
          have Hvok : Hid v.ok := (HG.out.2 j v hv).1
          have hvf := HF.out v hvm
          have Hvm := Lib.hid hvm
          have B3 := Lib.hid (HB.out.alloc (by omega) (.cells #[.int .i64 v.tool, .int .i64 v.from_, .int .i64 v.long] 40))
          have X3 := Lib.hid (HX.out.alloc (.cells #[.int .i64 v.tool, .int .i64 v.from_, .int .i64 v.long] 40))
          have Y3 := Lib.hid (Blk.new wr 40 #[.int .i64 v.tool, .int .i64 v.from_, .int .i64 v.long])
          clear hc hv c1' c2' c3' hvm
          by_cases hmt : Use.meets ⟨t, y, l⟩ v
          · have V2 : Says true (Use.ok ⟨t, y, l⟩ ∧ v.ok ∧ Use.meets ⟨t, y, l⟩ v) := Says.t ⟨⟨u1, u2, by dsimp only; omega, u4, u5, hy⟩, Hvok.out, hmt⟩
            obtain ⟨hm2, hm3⟩ := hmy.out.step Hvm.out hmt
            have Hm2 := Lib.hid hm2
            clear hmt hm2
            go_wp2_with fail
            refine (clash_any ⟨t, y, l⟩ v _ true V2).mono ?_
            rintro e w3 ⟨rfl, hb3⟩
            have B4 := Lib.hid (B3.out.trans (hb3.mono (by simp; omega)))
            have X4 := Lib.hid (X3.out.below hb3 (by simp; omega))
            have Y4 := Lib.hid (Y3.out.below hb3 (by simp))
            clear hb3 d0 d1 d2
            have e1 := Y4.out.cell 1
            have e2 := Y4.out.cell 2
            have d1 := X4.out.cell 1
            have d2 := X4.out.frozen 1
            go_wp2_with fail
            go_roundw
            case rel => exact ⟨j + 1, _, true, by omega, by go_num, rfl, Hm2, by omega, hvf, .t (by omega), by simpa using X4.out.set_ 1 (.int .i64 (v.from_ + v.long)), B4.out.setCell (Nat.le_refl _) _⟩
            case measure => simp [intOf]; omega
          · have V2 : Says false (Use.ok ⟨t, y, l⟩ ∧ v.ok ∧ Use.meets ⟨t, y, l⟩ v) := Says.f fun h => hmt h.2.2
            have Hmt := Lib.hid hmt
            clear hmt
            go_wp2_with fail
            refine (clash_any ⟨t, y, l⟩ v _ false V2).mono ?_
            rintro e w3 ⟨rfl, hb3⟩
            have B4 := Lib.hid (B3.out.trans (hb3.mono (by simp; omega)))
            have X4 := Lib.hid (X3.out.below hb3 (by simp; omega))
            clear hb3 d0 d1 d2
            go_wp2_with fail
            go_roundw
            case rel =>
              refine ⟨j + 1, y, ch, by omega, by go_num, rfl, hmy, hxy, hy, ⟨hch.1, fun e => ?_⟩, X4.out, B4.out⟩
              obtain ⟨h1, h2⟩ := hch.2 e
              refine ⟨h1, fun v' hv' => ?_⟩
              rw [List.take_add_one, Hv.out] at hv'
              rcases List.mem_append.1 hv' with hv' | hv'
              · exact h2 v' hv'
              · have : v' = v := by simpa using hv'
                rw [this, ← h1]; exact Hmt.out
            case measure => simp [intOf]; omega
        · have hjl : j = us.length := by omega
          subst hjl
          have V2 : Says true (Use.ok ⟨t, y, l⟩) := Says.t ⟨u1, u2, by dsimp only; omega, u4, u5, hy⟩
          have B3 := Lib.hid (HB.out.alloc (by omega) (.cells #[.int .i64 t, .int .i64 y, .int .i64 l] 40))
          have X3 := Lib.hid (HX.out.alloc (.cells #[.int .i64 t, .int .i64 y, .int .i64 l] 40))
          go_wp2_with fail
          refine (valid_any _ _ _ _ true V2).mono ?_
          rintro e w3 ⟨rfl, hw3⟩
          rw [hw3] at B3 X3
          clear hw3 d0 d1 d2
          go_wp2_with fail
          go_roundg (4002 - 2 * y.toNat + ch.toNat)
          case measure =>
            have := Hgk.out
            rcases ch with _ | _
            · have := (hch.2 rfl).1
              simp at *; omega
            · have := hch.1 rfl
              simp at *; omega
          case rel =>
            refine ⟨y, ch, rfl, hmy, by omega, hy, rfl, ?_, X3.out, B3.out⟩
            rcases ch with _ | _
            · obtain ⟨rfl, h2⟩ := hch.2 rfl
              rw [List.take_length] at h2
              exact .f h2
            · exact .t trivial
end Go.Proofs.Ytnmngjikcimpnaa
