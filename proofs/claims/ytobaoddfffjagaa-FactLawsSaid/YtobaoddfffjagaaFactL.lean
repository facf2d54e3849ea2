/- The walk of gantkeep4.FactLaws. -/
import Derived.Test.YtobaoddfffjagaaFactK
namespace Go.Proofs.Ytobaoddfffjagaa
open Go.RowKit
set_option linter.unusedVariables false

theorem SetF.self {rs : List Fct} {p : Fct → Prop} (h : SetF rs p) : SetF rs (fun f => f ∈ rs) := ⟨h.1, fun _ => Iff.rfl⟩
theorem yes_of {p : Prop} [Decidable p] (h : p) : Hid (true = decide p) := (decide_eq_true h).symm

theorem p_of (A K : Prop) (h : A → K) : (A ∧ K) ↔ A := ⟨fun x => x.1, fun x => ⟨x, h x⟩⟩
theorem p_join (A B K : Prop) : ((A ∨ B) ∧ K) ↔ ((B ∨ A) ∧ K) := by rw [Or.comm]
theorem p_meet (A B K : Prop) : ((A ∧ B) ∧ K) ↔ ((B ∧ A) ∧ K) := by rw [@And.comm A B]
theorem p_dist (A B C K D E F : Prop) (h1 : D ↔ (B ∨ C) ∧ K) (h2 : E ↔ (A ∧ B) ∧ K) (h3 : F ↔ (A ∧ C) ∧ K) : ((A ∧ D) ∧ K) ↔ ((E ∨ F) ∧ K) := by
  rw [h1, h2, h3]
  by_cases a : A <;> by_cases b : B <;> by_cases c : C <;> by_cases k : K <;> simp [a, b, c, k]
theorem p_minus (A B C K D E F : Prop) (h1 : D ↔ (B ∨ C) ∧ K) (h2 : E ↔ (A ∧ ¬ B) ∧ K) (h3 : F ↔ (A ∧ ¬ C) ∧ K) : ((A ∧ ¬ D) ∧ K) ↔ ((E ∧ F) ∧ K) := by
  rw [h1, h2, h3]
  by_cases a : A <;> by_cases b : B <;> by_cases c : C <;> by_cases k : K <;> simp [a, b, c, k]
theorem p_back (A B K D E : Prop) (h1 : D ↔ (A ∧ ¬ B) ∧ K) (h2 : E ↔ (A ∧ B) ∧ K) (h : A → K) : ((D ∨ E) ∧ K) ↔ A := by
  rw [h1, h2]
  by_cases a : A <;> by_cases b : B <;> by_cases k : K <;> simp [a, b, k]
  all_goals exact k (h a)
theorem p_sub (A B K : Prop) (h : A → B) (hk : B → K) : ((A ∨ B) ∧ K) ↔ B := ⟨fun x => x.1.elim h id, fun x => ⟨.inr x, hk x⟩⟩

set_option maxHeartbeats 16000000 in
theorem FactLaws_any (A0 A1 A2 : Option Addr) (n0 c0 n1 c1 n2 c2 : Nat) (z0 z1 z2 : List Int) (w : World) (h0 : IntArg w A0 n0 c0 z0) (h1 : IntArg w A1 n1 c1 z1) (h2 : IntArg w A2 n2 c2 z2) :
    Calls Try.prog 4 #[.slice A0 n0 c0, .slice A1 n1 c1, .slice A2 n2 c2] w fun e w' => e = .returned (.bool true) ∧ Below w.heap.size w w' := by
  have H0 := Lib.hid h0
  have H1 := Lib.hid h1
  have H2 := Lib.hid h2
  have Bc : Hid (Below w.heap.size w w) := Below.refl _ _
  clear h0 h1 h2
  go_enter Try.func4, Try.ntmps4
  go_wp2_with fail
  refine (Facts_any A0 n0 c0 z0 _ (H0.out.below Bc.out)).mono ?_
  rintro e w1 ⟨v1, ma, fa, rfl, hma, hl, ho, hb⟩
  obtain ⟨B1, d1, rfl⟩ := own_slice ho
  have RF1 : Hid (RF w1 B1 fa) := RK.own Fct.len ho hl
  have LF1 := Lib.hid hl
  replace Bc := Lib.hid (Bc.out.trans (hb.mono Bc.out.size))
  clear ho hl hb
  go_wp2_with fail
  refine (Of_any B1 ma d1 fa _ RF1.out LF1.out (by omega)).mono ?_
  rintro e w1' ⟨Aa, ca, la, rfl, hr, hw, hs, hl, hb⟩
  have Wa := Lib.hid hw
  have Sa := Lib.hid hs.self
  have Ka : Hid (∀ f, f ∈ la → okF f) := fun f hf => ((hs.2 f).1 hf).2
  have ba : la.length ≤ 9 := by omega
  replace Bc := Lib.hid (Bc.out.trans (hb.mono Bc.out.size))
  have Ra := Lib.hid hr
  clear hr hw hs hl hb RF1 LF1
  go_wp2_with fail
  refine (Facts_any A1 n1 c1 z1 _ (H1.out.below Bc.out)).mono ?_
  rintro e w1 ⟨v1, mb, fb, rfl, hmb, hl, ho, hb⟩
  obtain ⟨B1, d1, rfl⟩ := own_slice ho
  have RF1 : Hid (RF w1 B1 fb) := RK.own Fct.len ho hl
  have LF1 := Lib.hid hl
  replace Ra := Lib.hid (Ra.out.below hb)
  replace Bc := Lib.hid (Bc.out.trans (hb.mono Bc.out.size))
  clear ho hl hb
  go_wp2_with fail
  refine (Of_any B1 mb d1 fb _ RF1.out LF1.out (by omega)).mono ?_
  rintro e w1' ⟨Ab, cb, lb, rfl, hr, hw, hs, hl, hb⟩
  have Wb := Lib.hid hw
  have Sb := Lib.hid hs.self
  have Kb : Hid (∀ f, f ∈ lb → okF f) := fun f hf => ((hs.2 f).1 hf).2
  have bb : lb.length ≤ 9 := by omega
  replace Ra := Lib.hid (Ra.out.below hb)
  replace Bc := Lib.hid (Bc.out.trans (hb.mono Bc.out.size))
  have Rb := Lib.hid hr
  clear hr hw hs hl hb RF1 LF1
  go_wp2_with fail
  refine (Facts_any A2 n2 c2 z2 _ (H2.out.below Bc.out)).mono ?_
  rintro e w1 ⟨v1, mc, fc, rfl, hmc, hl, ho, hb⟩
  obtain ⟨B1, d1, rfl⟩ := own_slice ho
  have RF1 : Hid (RF w1 B1 fc) := RK.own Fct.len ho hl
  have LF1 := Lib.hid hl
  replace Ra := Lib.hid (Ra.out.below hb)
  replace Rb := Lib.hid (Rb.out.below hb)
  replace Bc := Lib.hid (Bc.out.trans (hb.mono Bc.out.size))
  clear ho hl hb
  go_wp2_with fail
  refine (Of_any B1 mc d1 fc _ RF1.out LF1.out (by omega)).mono ?_
  rintro e w1' ⟨Ac, cc, lc, rfl, hr, hw, hs, hl, hb⟩
  have Wc := Lib.hid hw
  have Sc := Lib.hid hs.self
  have Kc : Hid (∀ f, f ∈ lc → okF f) := fun f hf => ((hs.2 f).1 hf).2
  have bc : lc.length ≤ 9 := by omega
  replace Ra := Lib.hid (Ra.out.below hb)
  replace Rb := Lib.hid (Rb.out.below hb)
  replace Bc := Lib.hid (Bc.out.trans (hb.mono Bc.out.size))
  have Rc := Lib.hid hr
  clear hr hw hs hl hb RF1 LF1
  go_wp2_with fail
  clear H0 H1 H2
  refine (facted_any _).mono ?_
  rintro e w1 ⟨rfl, hb⟩
  replace Ra := Lib.hid (Ra.out.below hb)
  replace Rb := Lib.hid (Rb.out.below hb)
  replace Rc := Lib.hid (Rc.out.below hb)
  replace Bc := Lib.hid (Bc.out.trans (hb.mono Bc.out.size))
  clear hb
  go_wp2_with fail
  refine (IsSet_yes Aa la.length ca la _ Ra.out rfl (by omega) Sa.out.1 Ka.out).mono ?_
  rintro e w1 ⟨rfl, hb⟩
  replace Ra := Lib.hid (Ra.out.below hb)
  replace Rb := Lib.hid (Rb.out.below hb)
  replace Rc := Lib.hid (Rc.out.below hb)
  replace Bc := Lib.hid (Bc.out.trans (hb.mono Bc.out.size))
  clear hb
  go_wp2_with fail
  refine (Of_any Aa la.length ca la _ Ra.out rfl (by omega)).mono ?_
  rintro e w1 ⟨Ad, cd, ld, rfl, hr, hw, hs, hl, hb⟩
  have Wd := Lib.hid hw
  have Sd := Lib.hid hs
  have bd : ld.length ≤ 9 := by omega
  replace Ra := Lib.hid (Ra.out.below hb)
  replace Rb := Lib.hid (Rb.out.below hb)
  replace Rc := Lib.hid (Rc.out.below hb)
  replace Bc := Lib.hid (Bc.out.trans (hb.mono Bc.out.size))
  have Rd := Lib.hid hr
  clear hr hw hs hl hb
  go_wp2_with fail
  have E : ld = la := Sd.out.eq Sa.out (fun f => p_of _ _ (Ka.out f))
  refine (eqF_any Ad Aa ld.length la.length cd ca ld la _ true rfl rfl (by omega) (by omega) Rd.out Ra.out (yes_of E)).mono ?_
  rintro e w1 ⟨rfl, hb⟩
  replace Ra := Lib.hid (Ra.out.below hb)
  replace Rb := Lib.hid (Rb.out.below hb)
  replace Rc := Lib.hid (Rc.out.below hb)
  replace Rd := Lib.hid (Rd.out.below hb)
  replace Bc := Lib.hid (Bc.out.trans (hb.mono Bc.out.size))
  clear hb
  go_wp2_with fail
  clear E
  clear Rd Wd Sd bd
  refine (Join_any Aa Ab la.length lb.length ca cb la lb _ Ra.out Rb.out rfl rfl Wa.out Wb.out (by omega)).mono ?_
  rintro e w1 ⟨Ad, cd, ld, rfl, hr, hw, hs, hl, hb⟩
  have Wd := Lib.hid hw
  have Sd := Lib.hid hs
  have bd : ld.length ≤ 18 := by omega
  replace Ra := Lib.hid (Ra.out.below hb)
  replace Rb := Lib.hid (Rb.out.below hb)
  replace Rc := Lib.hid (Rc.out.below hb)
  replace Bc := Lib.hid (Bc.out.trans (hb.mono Bc.out.size))
  have Rd := Lib.hid hr
  clear hr hw hs hl hb
  go_wp2_with fail
  refine (Join_any Ab Aa lb.length la.length cb ca lb la _ Rb.out Ra.out rfl rfl Wb.out Wa.out (by omega)).mono ?_
  rintro e w1 ⟨Ae1, ce1, le1, rfl, hr, hw, hs, hl, hb⟩
  have We1 := Lib.hid hw
  have Se1 := Lib.hid hs
  have be1 : le1.length ≤ 18 := by omega
  replace Ra := Lib.hid (Ra.out.below hb)
  replace Rb := Lib.hid (Rb.out.below hb)
  replace Rc := Lib.hid (Rc.out.below hb)
  replace Rd := Lib.hid (Rd.out.below hb)
  replace Bc := Lib.hid (Bc.out.trans (hb.mono Bc.out.size))
  have Re1 := Lib.hid hr
  clear hr hw hs hl hb
  go_wp2_with fail
  have E : ld = le1 := Sd.out.eq Se1.out (fun f => p_join _ _ _)
  refine (eqF_any Ad Ae1 ld.length le1.length cd ce1 ld le1 _ true rfl rfl (by omega) (by omega) Rd.out Re1.out (yes_of E)).mono ?_
  rintro e w1 ⟨rfl, hb⟩
  replace Ra := Lib.hid (Ra.out.below hb)
  replace Rb := Lib.hid (Rb.out.below hb)
  replace Rc := Lib.hid (Rc.out.below hb)
  replace Rd := Lib.hid (Rd.out.below hb)
  replace Re1 := Lib.hid (Re1.out.below hb)
  replace Bc := Lib.hid (Bc.out.trans (hb.mono Bc.out.size))
  clear hb
  go_wp2_with fail
  clear E
  clear Rd Wd Sd bd Re1 We1 Se1 be1
  refine (Meet_any Aa Ab la.length lb.length ca cb la lb _ Ra.out Rb.out rfl rfl (by omega) (by omega)).mono ?_
  rintro e w1 ⟨Ad, cd, ld, rfl, hr, hw, hs, hl, hb⟩
  have Wd := Lib.hid hw
  have Sd := Lib.hid hs
  have bd : ld.length ≤ 9 := by omega
  replace Ra := Lib.hid (Ra.out.below hb)
  replace Rb := Lib.hid (Rb.out.below hb)
  replace Rc := Lib.hid (Rc.out.below hb)
  replace Bc := Lib.hid (Bc.out.trans (hb.mono Bc.out.size))
  have Rd := Lib.hid hr
  clear hr hw hs hl hb
  go_wp2_with fail
  refine (Meet_any Ab Aa lb.length la.length cb ca lb la _ Rb.out Ra.out rfl rfl (by omega) (by omega)).mono ?_
  rintro e w1 ⟨Ae1, ce1, le1, rfl, hr, hw, hs, hl, hb⟩
  have We1 := Lib.hid hw
  have Se1 := Lib.hid hs
  have be1 : le1.length ≤ 9 := by omega
  replace Ra := Lib.hid (Ra.out.below hb)
  replace Rb := Lib.hid (Rb.out.below hb)
  replace Rc := Lib.hid (Rc.out.below hb)
  replace Rd := Lib.hid (Rd.out.below hb)
  replace Bc := Lib.hid (Bc.out.trans (hb.mono Bc.out.size))
  have Re1 := Lib.hid hr
  clear hr hw hs hl hb
  go_wp2_with fail
  have E : ld = le1 := Sd.out.eq Se1.out (fun f => p_meet _ _ _)
  refine (eqF_any Ad Ae1 ld.length le1.length cd ce1 ld le1 _ true rfl rfl (by omega) (by omega) Rd.out Re1.out (yes_of E)).mono ?_
  rintro e w1 ⟨rfl, hb⟩
  replace Ra := Lib.hid (Ra.out.below hb)
  replace Rb := Lib.hid (Rb.out.below hb)
  replace Rc := Lib.hid (Rc.out.below hb)
  replace Rd := Lib.hid (Rd.out.below hb)
  replace Re1 := Lib.hid (Re1.out.below hb)
  replace Bc := Lib.hid (Bc.out.trans (hb.mono Bc.out.size))
  clear hb
  go_wp2_with fail
  clear E
  clear Rd Wd Sd bd Re1 We1 Se1 be1
  refine (Join_any Ab Ac lb.length lc.length cb cc lb lc _ Rb.out Rc.out rfl rfl Wb.out Wc.out (by omega)).mono ?_
  rintro e w1 ⟨Ad, cd, ld, rfl, hr, hw, hs, hl, hb⟩
  have Wd := Lib.hid hw
  have Sd := Lib.hid hs
  have bd : ld.length ≤ 18 := by omega
  replace Ra := Lib.hid (Ra.out.below hb)
  replace Rb := Lib.hid (Rb.out.below hb)
  replace Rc := Lib.hid (Rc.out.below hb)
  replace Bc := Lib.hid (Bc.out.trans (hb.mono Bc.out.size))
  have Rd := Lib.hid hr
  clear hr hw hs hl hb
  go_wp2_with fail
  refine (Meet_any Aa Ad la.length ld.length ca cd la ld _ Ra.out Rd.out rfl rfl (by omega) (by omega)).mono ?_
  rintro e w1 ⟨Ae1, ce1, le1, rfl, hr, hw, hs, hl, hb⟩
  have We1 := Lib.hid hw
  have Se1 := Lib.hid hs
  have be1 : le1.length ≤ 9 := by omega
  replace Ra := Lib.hid (Ra.out.below hb)
  replace Rb := Lib.hid (Rb.out.below hb)
  replace Rc := Lib.hid (Rc.out.below hb)
  replace Rd := Lib.hid (Rd.out.below hb)
  replace Bc := Lib.hid (Bc.out.trans (hb.mono Bc.out.size))
  have Re1 := Lib.hid hr
  clear hr hw hs hl hb
  go_wp2_with fail
  refine (Meet_any Aa Ab la.length lb.length ca cb la lb _ Ra.out Rb.out rfl rfl (by omega) (by omega)).mono ?_
  rintro e w1 ⟨Ae2, ce2, le2, rfl, hr, hw, hs, hl, hb⟩
  have We2 := Lib.hid hw
  have Se2 := Lib.hid hs
  have be2 : le2.length ≤ 9 := by omega
  replace Ra := Lib.hid (Ra.out.below hb)
  replace Rb := Lib.hid (Rb.out.below hb)
  replace Rc := Lib.hid (Rc.out.below hb)
  replace Rd := Lib.hid (Rd.out.below hb)
  replace Re1 := Lib.hid (Re1.out.below hb)
  replace Bc := Lib.hid (Bc.out.trans (hb.mono Bc.out.size))
  have Re2 := Lib.hid hr
  clear hr hw hs hl hb
  go_wp2_with fail
  refine (Meet_any Aa Ac la.length lc.length ca cc la lc _ Ra.out Rc.out rfl rfl (by omega) (by omega)).mono ?_
  rintro e w1 ⟨Ae3, ce3, le3, rfl, hr, hw, hs, hl, hb⟩
  have We3 := Lib.hid hw
  have Se3 := Lib.hid hs
  have be3 : le3.length ≤ 9 := by omega
  replace Ra := Lib.hid (Ra.out.below hb)
  replace Rb := Lib.hid (Rb.out.below hb)
  replace Rc := Lib.hid (Rc.out.below hb)
  replace Rd := Lib.hid (Rd.out.below hb)
  replace Re1 := Lib.hid (Re1.out.below hb)
  replace Re2 := Lib.hid (Re2.out.below hb)
  replace Bc := Lib.hid (Bc.out.trans (hb.mono Bc.out.size))
  have Re3 := Lib.hid hr
  clear hr hw hs hl hb
  go_wp2_with fail
  refine (Join_any Ae2 Ae3 le2.length le3.length ce2 ce3 le2 le3 _ Re2.out Re3.out rfl rfl We2.out We3.out (by omega)).mono ?_
  rintro e w1 ⟨Ae4, ce4, le4, rfl, hr, hw, hs, hl, hb⟩
  have We4 := Lib.hid hw
  have Se4 := Lib.hid hs
  have be4 : le4.length ≤ 18 := by omega
  replace Ra := Lib.hid (Ra.out.below hb)
  replace Rb := Lib.hid (Rb.out.below hb)
  replace Rc := Lib.hid (Rc.out.below hb)
  replace Rd := Lib.hid (Rd.out.below hb)
  replace Re1 := Lib.hid (Re1.out.below hb)
  replace Re2 := Lib.hid (Re2.out.below hb)
  replace Re3 := Lib.hid (Re3.out.below hb)
  replace Bc := Lib.hid (Bc.out.trans (hb.mono Bc.out.size))
  have Re4 := Lib.hid hr
  clear hr hw hs hl hb
  go_wp2_with fail
  have E : le1 = le4 := Se1.out.eq Se4.out (fun f => p_dist (f ∈ la) (f ∈ lb) (f ∈ lc) (okF f) _ _ _ (Sd.out.2 f) (Se2.out.2 f) (Se3.out.2 f))
  refine (eqF_any Ae1 Ae4 le1.length le4.length ce1 ce4 le1 le4 _ true rfl rfl (by omega) (by omega) Re1.out Re4.out (yes_of E)).mono ?_
  rintro e w1 ⟨rfl, hb⟩
  replace Ra := Lib.hid (Ra.out.below hb)
  replace Rb := Lib.hid (Rb.out.below hb)
  replace Rc := Lib.hid (Rc.out.below hb)
  replace Rd := Lib.hid (Rd.out.below hb)
  replace Re1 := Lib.hid (Re1.out.below hb)
  replace Re2 := Lib.hid (Re2.out.below hb)
  replace Re3 := Lib.hid (Re3.out.below hb)
  replace Re4 := Lib.hid (Re4.out.below hb)
  replace Bc := Lib.hid (Bc.out.trans (hb.mono Bc.out.size))
  clear hb
  go_wp2_with fail
  clear E
  clear Rd Wd Sd bd Re1 We1 Se1 be1 Re2 We2 Se2 be2 Re3 We3 Se3 be3 Re4 We4 Se4 be4
  refine (Join_any Ab Ac lb.length lc.length cb cc lb lc _ Rb.out Rc.out rfl rfl Wb.out Wc.out (by omega)).mono ?_
  rintro e w1 ⟨Ad, cd, ld, rfl, hr, hw, hs, hl, hb⟩
  have Wd := Lib.hid hw
  have Sd := Lib.hid hs
  have bd : ld.length ≤ 18 := by omega
  replace Ra := Lib.hid (Ra.out.below hb)
  replace Rb := Lib.hid (Rb.out.below hb)
  replace Rc := Lib.hid (Rc.out.below hb)
  replace Bc := Lib.hid (Bc.out.trans (hb.mono Bc.out.size))
  have Rd := Lib.hid hr
  clear hr hw hs hl hb
  go_wp2_with fail
  refine (Minus_any Aa Ad la.length ld.length ca cd la ld _ Ra.out Rd.out rfl rfl (by omega) (by omega)).mono ?_
  rintro e w1 ⟨Ae1, ce1, le1, rfl, hr, hw, hs, hl, hb⟩
  have We1 := Lib.hid hw
  have Se1 := Lib.hid hs
  have be1 : le1.length ≤ 9 := by omega
  replace Ra := Lib.hid (Ra.out.below hb)
  replace Rb := Lib.hid (Rb.out.below hb)
  replace Rc := Lib.hid (Rc.out.below hb)
  replace Rd := Lib.hid (Rd.out.below hb)
  replace Bc := Lib.hid (Bc.out.trans (hb.mono Bc.out.size))
  have Re1 := Lib.hid hr
  clear hr hw hs hl hb
  go_wp2_with fail
  refine (Minus_any Aa Ab la.length lb.length ca cb la lb _ Ra.out Rb.out rfl rfl (by omega) (by omega)).mono ?_
  rintro e w1 ⟨Ae2, ce2, le2, rfl, hr, hw, hs, hl, hb⟩
  have We2 := Lib.hid hw
  have Se2 := Lib.hid hs
  have be2 : le2.length ≤ 9 := by omega
  replace Ra := Lib.hid (Ra.out.below hb)
  replace Rb := Lib.hid (Rb.out.below hb)
  replace Rc := Lib.hid (Rc.out.below hb)
  replace Rd := Lib.hid (Rd.out.below hb)
  replace Re1 := Lib.hid (Re1.out.below hb)
  replace Bc := Lib.hid (Bc.out.trans (hb.mono Bc.out.size))
  have Re2 := Lib.hid hr
  clear hr hw hs hl hb
  go_wp2_with fail
  refine (Minus_any Aa Ac la.length lc.length ca cc la lc _ Ra.out Rc.out rfl rfl (by omega) (by omega)).mono ?_
  rintro e w1 ⟨Ae3, ce3, le3, rfl, hr, hw, hs, hl, hb⟩
  have We3 := Lib.hid hw
  have Se3 := Lib.hid hs
  have be3 : le3.length ≤ 9 := by omega
  replace Ra := Lib.hid (Ra.out.below hb)
  replace Rb := Lib.hid (Rb.out.below hb)
  replace Rc := Lib.hid (Rc.out.below hb)
  replace Rd := Lib.hid (Rd.out.below hb)
  replace Re1 := Lib.hid (Re1.out.below hb)
  replace Re2 := Lib.hid (Re2.out.below hb)
  replace Bc := Lib.hid (Bc.out.trans (hb.mono Bc.out.size))
  have Re3 := Lib.hid hr
  clear hr hw hs hl hb
  go_wp2_with fail
  refine (Meet_any Ae2 Ae3 le2.length le3.length ce2 ce3 le2 le3 _ Re2.out Re3.out rfl rfl (by omega) (by omega)).mono ?_
  rintro e w1 ⟨Ae4, ce4, le4, rfl, hr, hw, hs, hl, hb⟩
  have We4 := Lib.hid hw
  have Se4 := Lib.hid hs
  have be4 : le4.length ≤ 9 := by omega
  replace Ra := Lib.hid (Ra.out.below hb)
  replace Rb := Lib.hid (Rb.out.below hb)
  replace Rc := Lib.hid (Rc.out.below hb)
  replace Rd := Lib.hid (Rd.out.below hb)
  replace Re1 := Lib.hid (Re1.out.below hb)
  replace Re2 := Lib.hid (Re2.out.below hb)
  replace Re3 := Lib.hid (Re3.out.below hb)
  replace Bc := Lib.hid (Bc.out.trans (hb.mono Bc.out.size))
  have Re4 := Lib.hid hr
  clear hr hw hs hl hb
  go_wp2_with fail
  have E : le1 = le4 := Se1.out.eq Se4.out (fun f => p_minus (f ∈ la) (f ∈ lb) (f ∈ lc) (okF f) _ _ _ (Sd.out.2 f) (Se2.out.2 f) (Se3.out.2 f))
  refine (eqF_any Ae1 Ae4 le1.length le4.length ce1 ce4 le1 le4 _ true rfl rfl (by omega) (by omega) Re1.out Re4.out (yes_of E)).mono ?_
  rintro e w1 ⟨rfl, hb⟩
  replace Ra := Lib.hid (Ra.out.below hb)
  replace Rb := Lib.hid (Rb.out.below hb)
  replace Rc := Lib.hid (Rc.out.below hb)
  replace Rd := Lib.hid (Rd.out.below hb)
  replace Re1 := Lib.hid (Re1.out.below hb)
  replace Re2 := Lib.hid (Re2.out.below hb)
  replace Re3 := Lib.hid (Re3.out.below hb)
  replace Re4 := Lib.hid (Re4.out.below hb)
  replace Bc := Lib.hid (Bc.out.trans (hb.mono Bc.out.size))
  clear hb
  go_wp2_with fail
  clear E
  clear Rd Wd Sd bd Re1 We1 Se1 be1 Re2 We2 Se2 be2 Re3 We3 Se3 be3 Re4 We4 Se4 be4
  refine (Minus_any Aa Ab la.length lb.length ca cb la lb _ Ra.out Rb.out rfl rfl (by omega) (by omega)).mono ?_
  rintro e w1 ⟨Ad, cd, ld, rfl, hr, hw, hs, hl, hb⟩
  have Wd := Lib.hid hw
  have Sd := Lib.hid hs
  have bd : ld.length ≤ 9 := by omega
  replace Ra := Lib.hid (Ra.out.below hb)
  replace Rb := Lib.hid (Rb.out.below hb)
  replace Rc := Lib.hid (Rc.out.below hb)
  replace Bc := Lib.hid (Bc.out.trans (hb.mono Bc.out.size))
  have Rd := Lib.hid hr
  clear hr hw hs hl hb
  go_wp2_with fail
  refine (Meet_any Aa Ab la.length lb.length ca cb la lb _ Ra.out Rb.out rfl rfl (by omega) (by omega)).mono ?_
  rintro e w1 ⟨Ae1, ce1, le1, rfl, hr, hw, hs, hl, hb⟩
  have We1 := Lib.hid hw
  have Se1 := Lib.hid hs
  have be1 : le1.length ≤ 9 := by omega
  replace Ra := Lib.hid (Ra.out.below hb)
  replace Rb := Lib.hid (Rb.out.below hb)
  replace Rc := Lib.hid (Rc.out.below hb)
  replace Rd := Lib.hid (Rd.out.below hb)
  replace Bc := Lib.hid (Bc.out.trans (hb.mono Bc.out.size))
  have Re1 := Lib.hid hr
  clear hr hw hs hl hb
  go_wp2_with fail
  refine (Join_any Ad Ae1 ld.length le1.length cd ce1 ld le1 _ Rd.out Re1.out rfl rfl Wd.out We1.out (by omega)).mono ?_
  rintro e w1 ⟨Ae2, ce2, le2, rfl, hr, hw, hs, hl, hb⟩
  have We2 := Lib.hid hw
  have Se2 := Lib.hid hs
  have be2 : le2.length ≤ 18 := by omega
  replace Ra := Lib.hid (Ra.out.below hb)
  replace Rb := Lib.hid (Rb.out.below hb)
  replace Rc := Lib.hid (Rc.out.below hb)
  replace Rd := Lib.hid (Rd.out.below hb)
  replace Re1 := Lib.hid (Re1.out.below hb)
  replace Bc := Lib.hid (Bc.out.trans (hb.mono Bc.out.size))
  have Re2 := Lib.hid hr
  clear hr hw hs hl hb
  go_wp2_with fail
  have E : le2 = la := Se2.out.eq Sa.out (fun f => p_back (f ∈ la) (f ∈ lb) (okF f) _ _ (Sd.out.2 f) (Se1.out.2 f) (Ka.out f))
  refine (eqF_any Ae2 Aa le2.length la.length ce2 ca le2 la _ true rfl rfl (by omega) (by omega) Re2.out Ra.out (yes_of E)).mono ?_
  rintro e w1 ⟨rfl, hb⟩
  replace Ra := Lib.hid (Ra.out.below hb)
  replace Rb := Lib.hid (Rb.out.below hb)
  replace Rc := Lib.hid (Rc.out.below hb)
  replace Rd := Lib.hid (Rd.out.below hb)
  replace Re1 := Lib.hid (Re1.out.below hb)
  replace Re2 := Lib.hid (Re2.out.below hb)
  replace Bc := Lib.hid (Bc.out.trans (hb.mono Bc.out.size))
  clear hb
  go_wp2_with fail
  clear E
  clear Rd Wd Sd bd Re1 We1 Se1 be1 Re2 We2 Se2 be2
  obtain ⟨r, hr9⟩ : ∃ r, r = decide (∀ f ∈ la, f ∈ lb) := ⟨_, rfl⟩
  have HR := Lib.hid hr9
  clear hr9
  refine (Within_any Aa Ab la.length lb.length ca cb la lb _ Ra.out Rb.out rfl rfl (by omega) (by omega) r HR).mono ?_
  rintro e w1 ⟨rfl, hb⟩
  replace Ra := Lib.hid (Ra.out.below hb)
  replace Rb := Lib.hid (Rb.out.below hb)
  replace Rc := Lib.hid (Rc.out.below hb)
  replace Bc := Lib.hid (Bc.out.trans (hb.mono Bc.out.size))
  clear hb
  go_wp2_with fail
  refine (Join_any Aa Ab la.length lb.length ca cb la lb _ Ra.out Rb.out rfl rfl Wa.out Wb.out (by omega)).mono ?_
  rintro e w1 ⟨Ad, cd, ld, rfl, hr, hw, hs, hl, hb⟩
  have Wd := Lib.hid hw
  have Sd := Lib.hid hs
  have bd : ld.length ≤ 18 := by omega
  replace Ra := Lib.hid (Ra.out.below hb)
  replace Rb := Lib.hid (Rb.out.below hb)
  replace Rc := Lib.hid (Rc.out.below hb)
  replace Bc := Lib.hid (Bc.out.trans (hb.mono Bc.out.size))
  have Rd := Lib.hid hr
  clear hr hw hs hl hb
  go_wp2_with fail
  have HR2 : Hid (r = decide (ld = lb)) := by
    unfold Hid
    rw [HR.out]
    refine decide_eq_decide.2 ⟨fun h => Sd.out.eq Sb.out (fun f => ?_), fun h f hf => ?_⟩
    · exact p_sub _ _ _ (h f) (Kb.out f)
    · rw [← h]
      exact (Sd.out.2 f).2 ⟨.inl hf, Ka.out f hf⟩
  have hrr : (r == r) = true := by simp
  refine (eqF_any Ad Ab ld.length lb.length cd cb ld lb _ r rfl rfl (by omega) (by omega) Rd.out Rb.out HR2).mono ?_
  rintro e w1 ⟨rfl, hb⟩
  replace Ra := Lib.hid (Ra.out.below hb)
  replace Rb := Lib.hid (Rb.out.below hb)
  replace Rc := Lib.hid (Rc.out.below hb)
  replace Rd := Lib.hid (Rd.out.below hb)
  replace Bc := Lib.hid (Bc.out.trans (hb.mono Bc.out.size))
  clear hb
  go_wp2_with fail
  clear Rd Wd Sd bd
  refine (Apply_nil Aa la.length ca la _ Ra.out rfl (by omega)).mono ?_
  rintro e w1 ⟨Ad, cd, ld, rfl, hr, hw, hs, hl, hb⟩
  have Wd := Lib.hid hw
  have Sd := Lib.hid hs
  have bd : ld.length ≤ 9 := by omega
  replace Ra := Lib.hid (Ra.out.below hb)
  replace Rb := Lib.hid (Rb.out.below hb)
  replace Rc := Lib.hid (Rc.out.below hb)
  replace Bc := Lib.hid (Bc.out.trans (hb.mono Bc.out.size))
  have Rd := Lib.hid hr
  clear hr hw hs hl hb
  go_wp2_with fail
  have E : ld = la := Sd.out.eq Sa.out (fun f => p_of _ _ (Ka.out f))
  refine (eqF_any Ad Aa ld.length la.length cd ca ld la _ true rfl rfl (by omega) (by omega) Rd.out Ra.out (yes_of E)).mono ?_
  rintro e w1 ⟨rfl, hb⟩
  replace Ra := Lib.hid (Ra.out.below hb)
  replace Rb := Lib.hid (Rb.out.below hb)
  replace Rc := Lib.hid (Rc.out.below hb)
  replace Rd := Lib.hid (Rd.out.below hb)
  replace Bc := Lib.hid (Bc.out.trans (hb.mono Bc.out.size))
  clear hb
  go_wp2_with fail
  clear E
  go_ret
  exact ⟨rfl, Bc.out⟩
end Go.Proofs.Ytobaoddfffjagaa
