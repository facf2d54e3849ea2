/- The walk of order.Times. -/
import Derived.Test.YtnmngjikcimpnaaOrdA
import Derived.Deep.QuietTactic
import Derived.BigQuiet
namespace Go.Proofs.Ytnmngjikcimpnaa
open Go.RowKit
set_option linter.unusedVariables false

theorem info_int : (Try.prog.info? 3).map (fun i => (i.zero, i.size, i.bytes)) = some (some (.int .i64 0), 1, 8) := by kernel_rfl

/-- The end of a step. -/
def Ends (es ts : List Int) (x : Int) : Int := es.getD x.toNat 0 + ts.getD x.toNat 0
/-- The earliest starts of the first steps. -/
def Early (xss : List (List Int)) (ts es : List Int) : Prop :=
  es.length ≤ xss.length ∧ (∀ (k : Nat) (l : List Int) (v : Int), xss[k]? = some l → es[k]? = some v → Mx (Ends es ts) l v ∧ v ≤ 2000 * k)
def IsEnd (ts es : List Int) (v : Int) : Prop := 0 ≤ v ∧ v ≤ 80000 ∧ (∀ (k : Nat) (x : Int), es[k]? = some x → x + ts.getD k 0 ≤ v) ∧ (v = 0 ∨ ∃ (k : Nat) (x : Int), es[k]? = some x ∧ v = x + ts.getD k 0)

theorem early_snoc {xss : List (List Int)} {ts es l : List Int} {v : Int} (hV : Valid xss) (hE : Early xss ts es) (hl : xss[es.length]? = some l) (hm : Mx (Ends es ts) l v) (hb : v ≤ 2000 * es.length) :
    Early xss ts (es ++ [v]) := by
  have key : ∀ (k : Nat) (l : List Int), xss[k]? = some l → k ≤ es.length → ∀ x ∈ l, Ends es ts x = Ends (es ++ [v]) ts x := by
    intro k l hk hkl x hx
    obtain ⟨i, hi, rfl⟩ := List.getElem_of_mem hx
    obtain ⟨a, b⟩ := (hV.2 k l hk).1 i _ (List.getElem?_eq_getElem hi)
    unfold Ends
    have : l[i].toNat < es.length := by omega
    simp [List.getD, List.getElem?_append_left this]
  refine ⟨by have := lt_of_at hl; simp; omega, fun k l' v' hk hv => ?_⟩
  by_cases hlt : k < es.length
  · rw [List.getElem?_append_left hlt] at hv
    obtain ⟨a, b⟩ := hE.2 k l' v' hk hv
    exact ⟨a.congr (key k l' hk (by omega)), b⟩
  · have hke : k = es.length := by have := lt_of_at hv; simp at this; omega
    subst hke
    simp at hv
    subst hv
    rw [hl] at hk
    cases hk
    exact ⟨hm.congr (key _ _ hl (Nat.le_refl _)), hb⟩

theorem isEnd_snoc {ts es : List Int} {v e : Int} (h : IsEnd ts es e) (hb : v + ts.getD es.length 0 ≤ 80000) : IsEnd ts (es ++ [v]) (max e (v + ts.getD es.length 0)) := by
  obtain ⟨h0, h1, h2, h3⟩ := h
  refine ⟨by omega, by omega, fun k x hk => ?_, ?_⟩
  · by_cases hlt : k < es.length
    · rw [List.getElem?_append_left hlt] at hk
      have := h2 k x hk; omega
    · have hke : k = es.length := by have := lt_of_at hk; simp at this; omega
      subst hke
      simp at hk
      subst hk
      omega
  · by_cases hc : e ≤ v + ts.getD es.length 0
    · exact .inr ⟨es.length, v, by simp, by omega⟩
    · rcases h3 with h3 | ⟨k, x, hk, h3⟩
      · exact .inl (by omega)
      · exact .inr ⟨k, x, by rw [List.getElem?_append_left (lt_of_at hk)]; exact hk, by omega⟩

set_option maxHeartbeats 1000000 in
set_option maxRecDepth 100000 in
theorem times_ok (A B : Option Addr) (c d m : Nat) (xss : List (List Int)) (ts : List Int) (w : World) (hm : ts.length = m) (hR : RII w A xss) (hV : Valid xss) (hT : RI w B ts) (hD : Durs xss ts) :
    Calls Try.prog 10 #[.slice A xss.length c, .slice B m d] w fun e w' => ∃ v es t, e = .returned (.tuple #[v, .int .i64 t, .int .i64 0]) ∧
      es.length = xss.length ∧ Early xss ts es ∧ IsEnd ts es t ∧ w'.ownsRow w.heap.size 3 1 v es.length (es.map (Value.int .i64)) ∧ Below w.heap.size w w' := by
  subst hm
  have hlen := hV.1
  have HV := Lib.hid hV
  have HD := Lib.hid hD
  have HR := Lib.hid hR
  have HT := Lib.hid hT
  clear hV hD hR hT
  obtain ⟨i0, hi, hz0, hz1, hz2⟩ := info_parts info_int
  go_enter Try.func10, Try.ntmps10
  go_wp2_with (go_at_call 26; refine (long_ok _ _ _ _ _ _ _ HR.out HV.out HT.out HD.out).mono ?_; rintro e w' ⟨rfl, rfl⟩)
  go_loopw [8, 9, 23] (fun v t i wr => ∃ (k : Nat) (es : List Int), Hid (es.length = k) ∧ k ≤ xss.length ∧ i = .int .i64 k ∧ (∃ tt, t = .int .i64 tt ∧ Hid (IsEnd ts es tt)) ∧ Hid (Early xss ts es) ∧ wr.ownsRow w.heap.size 3 1 v k (es.map (Value.int .i64)) ∧ Below w.heap.size w wr) (fun _ _ i _ => xss.length - (intOf i).toNat)
  case atStart => exact ⟨0, [], rfl, by omega, rfl, ⟨0, rfl, ⟨by omega, by omega, by simp, .inl rfl⟩⟩, ⟨by simp, by simp⟩, World.ownsRow_nil _ _ _ _, Below.refl _ _⟩
  case round =>
    obtain ⟨k, es, Hk, hk, rfl, ⟨tt, rfl, hend⟩, hear, hown, hbel⟩ := hrel
    by_cases hlt : k < xss.length
    · obtain ⟨l, hl⟩ := some_at hlt
      obtain ⟨t, ht⟩ := some_at (l := ts) (k := k) (by have := HD.out.1; omega)
      obtain ⟨b, o, rfl, hb, hc⟩ := (HR.out.below hbel) (by omega)
      obtain ⟨Aj, cj, h1, h2⟩ := hc _ l hl
      obtain ⟨b', o', rfl, hb', hc'⟩ := (HT.out.below hbel) (by have := HD.out.1; omega)
      have c2 := hc' _ t ht
      obtain ⟨t1, t2⟩ := HD.out.2 _ t ht
      have hll := HV.out.len hl
      have hkt : k < ts.length := by have := HD.out.1; omega
      have H2 := Lib.hid h2
      have Hl := Lib.hid hl
      have Ht := Lib.hid ht
      have Hown := Lib.hid hown
      have Hbel := Lib.hid hbel
      have HC := Lib.hid hc'
      clear hc hc' h2 hl ht hown hbel
      go_wp2_with fail
      obtain ⟨wo, hwo⟩ : ∃ wo : World, wo = wr := ⟨_, rfl⟩
      subst hwo
      go_loopw [12, 30] (fun a i wr => ∃ i' : Nat, i' ≤ l.length ∧ i = .int .i64 i' ∧ (∃ aa : Int, a = .int .i64 aa ∧ 0 ≤ aa ∧ aa ≤ 2000 * k ∧ Hid (Mx (Ends es ts) (l.take i') aa)) ∧ ∃ n, wr = wo.drewN n) (fun _ i _ => l.length - (intOf i).toNat)
      case atStart => exact ⟨0, by omega, rfl, ⟨0, rfl, by omega, by omega, Mx.start _ _⟩, 0, rfl⟩
      case round =>
        obtain ⟨i, hil, rfl, ⟨aa, rfl, ha1, ha2, hmx⟩, n, rfl⟩ := hrel
        by_cases hlt' : i < l.length
        · obtain ⟨x, hx⟩ := some_at hlt'
          obtain ⟨v1, v2⟩ := (HV.out.2 _ _ Hl.out).1 i x hx
          obtain ⟨x, rfl⟩ := Int.eq_ofNat_of_zero_le v1
          obtain ⟨e1, he1⟩ := some_at (l := es) (k := x) (by have := Hk.out; omega)
          obtain ⟨t', ht'⟩ := some_at (l := ts) (k := x) (by have := HD.out.1; omega)
          obtain ⟨g, cap, rfl, hg1, hg2⟩ := Hown.out.form (by omega)
          have c3 := Hown.out.cells (g := g) rfl x (.int .i64 e1) (by simp [he1])
          rw [Addr.add_lit, Nat.zero_add] at c3
          have c4 := HC.out x t' ht'
          obtain ⟨b'', o'', rfl, hb'', hc''⟩ := H2.out (by omega)
          have c5 := hc'' i _ hx
          obtain ⟨tb1, tb2⟩ := HD.out.2 _ t' ht'
          have hxk : (x : Int) < (k : Int) := by omega
          have hxt : (x : Int) < (ts.length : Int) := by have := lt_of_at ht'; omega
          have heb := (hear.out.2 x _ e1 (some_at (l := xss) (k := x) (by omega)).choose_spec he1)
          have heb1 := heb.1.1
          have heb2 := heb.2
          have hfin : Hid (Mx (Ends es ts) (l.take (i + 1)) (max aa (e1 + t'))) := by
            have := hmx.out.snoc hx
            have he : Ends es ts (x : Int) = e1 + t' := by unfold Ends; simp [List.getD, he1, ht']
            rw [he] at this; exact this
          clear hc'' heb hx he1 ht' v1 v2
          go_wp2
          go_quiet (fail)
          go_wp2
          go_roundw
          case rel => exact ⟨i + 1, by omega, by go_num, ⟨max aa (e1 + t'), by first | rfl | go_num, by omega, by omega, hfin⟩, _, rfl⟩
          case measure => simp [intOf]; omega
        · have hil' : i = l.length := by omega
          subst hil'
          have hmx' := hmx.out
          rw [List.take_length] at hmx'
          have Hmx := Lib.hid hmx'
          clear hmx hmx'
          have hbs := Hbel.out.size
          have H0 := Lib.hid (((below_drewN Hbel.out n).alloc (by simpa using hbs) (.cells #[.int .i64 aa] 3)))
          have hend' : Hid (IsEnd ts (es ++ [aa]) (if tt < aa + t then aa + t else tt)) := by
            rw [show (if tt < aa + t then aa + t else tt) = max tt (aa + t) by split <;> omega]
            have := isEnd_snoc (v := aa) hend.out
            rw [Hk.out] at this
            have he : ts.getD k 0 = t := by simp [List.getD, Ht.out]
            rw [he] at this
            exact this (by omega)
          have hear' : Hid (Early xss ts (es ++ [aa])) := early_snoc HV.out hear.out (by rw [Hk.out]; exact Hl.out) Hmx.out (by rw [Hk.out]; exact ha2)
          obtain ⟨htt1, htt2, _⟩ := hend.out
          go_wp2_with (at_builtin; refine wpList_append_one _ rfl (.tmp 46) (.tmp 48) 22 rfl w.heap.size 3 i0 (.int .i64 0) 8 Try.underlying22 hi hz0 hz1 hz2 rfl u8 k _ rfl (Hown.out.alloc _) wo.heap.size (.int .i64 aa) rfl (World.cell?_alloc_at _ _ _ _ rfl) rfl (by unfold maxLen; omega) (by omega) (by simp; omega) ?_; intro v1 w1 hown1 hg1; have H1 := Lib.hid (below_append H0.out (Hown.out.alloc _) hg1 (by simp; omega)); have c2 := (HT.out.below (H1.out.mono (Nat.le_refl _))).at_ Ht.out; have Hown1 := Lib.hid hown1; clear hown1 hg1)
          all_goals
            go_roundw
            case rel => exact ⟨k + 1, es ++ [aa], by simp [Hid, Hk.out], by omega, by go_num, ⟨_, rfl, hend'⟩, hear', by simpa using Hown1.out, H1.out⟩
            case measure => simp [intOf]; omega
    · have hkx : k = xss.length := by omega
      go_wp2
      go_ret3
      exact ⟨_, es, tt, rfl, by rw [Hk.out, hkx], hear.out, hend.out, by rw [Hk.out]; exact hown, hbel⟩
end Go.Proofs.Ytnmngjikcimpnaa
