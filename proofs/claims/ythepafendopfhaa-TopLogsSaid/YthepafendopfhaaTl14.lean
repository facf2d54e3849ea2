/- grid.Check. Printed by gen/logs.py. · msg.Check. Printed by gen/logs.py. · msg.Write. Printed by gen/logs.py. · The bytes of a message, part by part. Printed by gen/logs.py. · msg.Read. Printed by gen/logs.py. · cells compared. Printed by gen/logs.py. · Sorting a row of structs over the list of blocks. No walk. · cells sorted. Printed by gen/logs.py. · A stream of numbers among the call's own blocks: what Next yields and leaves, as functions. (Cut out of Strm.) · gantmake.Cells. Printed by gen/logs.py. · gantmake.Msg, msg.Same. Printed by gen/logs.py. · The bytes of a log. No walk. · log.scan. Printed by gen/logs.py. · log.Read, log.Add. Printed by gen/logs.py. · messages in a log. No walk. Printed by gen/logs.py. · TopLogs. Printed by gen/logs.py. -/
import Derived.Test.YthepafendopfhaaTl11
import Derived.Test.YthepafendopfhaaTl12
import Derived.Test.YthepafendopfhaaTl13
import Derived.Test.YthepafendopfhaaTl4
namespace Go.Proofs.Ythepafendopfhaa
open Go.RowKit
set_option linter.unusedVariables false
set_option maxRecDepth 100000

/-- A cell of the grid. -/
structure CeP where
  x : Int
  y : Int
  deriving DecidableEq
def CeP.cells (c : CeP) : List Value := [.int .i64 c.x, .int .i64 c.y]
theorem CeP.len (c : CeP) : c.cells.length = 2 := rfl
def ltC (a b : CeP) : Prop := a.y < b.y ∨ a.y = b.y ∧ a.x < b.x
instance (a b : CeP) : Decidable (ltC a b) := by unfold ltC; infer_instance
def onC (c : CeP) : Prop := -64 ≤ c.x ∧ c.x < 64 ∧ -64 ≤ c.y ∧ c.y < 64
/-- A set of cells, in order. -/
def OkC (cs : List CeP) : Prop := (∀ c ∈ cs, onC c) ∧ cs.Pairwise ltC
theorem ltC_at {cs : List CeP} (h : OkC cs) {q : Nat} {a b : CeP} (ha : cs[q]? = some a) (hb : cs[q + 1]? = some b) : ltC a b := by
  obtain ⟨h1, rfl⟩ := List.getElem?_eq_some_iff.1 ha
  obtain ⟨h2, rfl⟩ := List.getElem?_eq_some_iff.1 hb
  exact List.pairwise_iff_getElem.1 h.2 q (q + 1) h1 h2 (by omega)
section
variable {P : Program} {ops : Array Oper} {rest : List Oper} {o : Oper} {a : Act} {w0 : World} {l l0 : Ents} {kd : Nat → KdY} {k : Nat} {R : Act → Ents → Prop}
/-- A struct that is known wherever l0 lies. -/
theorem wpY_loadS {t : TypeId} {p : Operand} {b j n : Nat} {cs : List Value} (hk : kd k = .c (.agg cs.toArray)) (ho : o.op = .load t p) (hg : Region.wanted o (yielded ops a.tmps) = true) (hT : RowT P t n) (hp : a.eval p = .pointer (some ⟨b, j, none⟩))
    (hx : ∀ W, Hid (Hp w0 W l0) → W.rangeAt b j cs) (hl : cs.length = n) (h : wpY P ops w0 l0 kd R (k + 1) rest (a.put o.dst (.agg cs.toArray)) l) : wpY P ops w0 l0 kd R k (o :: rest) a l :=
  wpY_c hk hg (fun W hW => by
    obtain ⟨d, h1, h2⟩ := hT.u
    unfold execOp
    simp only [ho, hp, Instr.loadAt, Instr.sureAddr, Sem.run_bind, Sem.run_pure, Result.andThen_ok, run_loadVar_mid W b j t cs d (hx W hW) h1 h2 (by rw [hT.s, hl])]) h
end
theorem rCel : RowT Try.prog 78 2 := ⟨⟨_, Try.underlying78, rfl⟩, by kernel_rfl⟩
theorem zCel : (Try.prog.info? 78).bind (·.zero) = some (.agg #[.int .i64 0, .int .i64 0]) := by kernel_rfl
theorem kIntG : ∃ d, Try.prog.underlying 3 = some d ∧ d.isRow = false := ⟨_, Try.underlying3, rfl⟩
theorem sIntG : (Try.prog.info? 3).map (·.size) = some 1 := by kernel_rfl
theorem on_any (n : Int) (w : World) (h1 : -64 ≤ n) (h2 : n < 64) :
    Calls Try.prog 43 #[.int .i64 n] w fun e w' => e = .returned (.bool true) ∧ w = w' := by
  have d1 : decide (-64 ≤ n) = true := decide_eq_true h1
  have d2 : decide (n < 64) = true := decide_eq_true h2
  go_enter Try.func43, Try.ntmps43
  go_wp2_with (first
      | go_skip)
  go_ret
  exact ⟨rfl, rfl⟩
set_option maxHeartbeats 4000000 in
theorem order_any (a b : CeP) (w0 w : World) (m : Ents) (H : Hid (Hp w0 w m)) (h : ltC a b) :
    Calls Try.prog 44 #[.agg a.cells.toArray, .agg b.cells.toArray] w fun e w' => e = .returned (.int .i64 (-1)) ∧ Hp w0 w' m := by
  obtain ⟨ax, ay⟩ := a
  obtain ⟨bx, by_⟩ := b
  show Calls Try.prog 44 #[.agg #[.int .i64 ax, .int .i64 ay], .agg #[.int .i64 bx, .int .i64 by_]] w _
  have c1 : Hid (Lib.compareInt ay by_ = if ay < by_ then -1 else 0) := Lib.hid (by
    unfold Lib.compareInt
    unfold ltC at h
    split
    · rfl
    · rw [if_neg (by simp at h ⊢; omega)])
  have c2 : ¬ ay < by_ → Lib.compareInt ax bx = -1 := fun hn => by
    unfold Lib.compareInt
    unfold ltC at h
    rw [if_pos (by simp at h ⊢; omega)]
  have C2 := Lib.hid c2
  clear c2 h
  go_enter Try.func44, Try.ntmps44
  go_wp2_with (first
      | go_skip
      | ((with_reducible refine isBox ?_); refine bxA H ?_; clear H; intro _ _ H)
      | ((with_reducible refine isLoad ?_); refine ld1A H ?_ (hT := kIntG) (hm := by (repeat (first | exact List.Mem.head _ | refine List.Mem.tail _ ?_ | refine List.mem_append_right _ ?_ | assumption)))))
  go_at_call 50
  refine (Try.cmp_Compare_int ay by_ _).mono ?_
  rintro _ _ ⟨rfl, rfl⟩
  rw [c1.out]
  by_cases hy : ay < by_
  · rw [if_pos hy]
    go_wp2_with (first
        | go_skip
        | ((with_reducible refine isLoad ?_); refine ld1A H ?_ (hT := kIntG) (hm := by (repeat (first | exact List.Mem.head _ | refine List.Mem.tail _ ?_ | refine List.mem_append_right _ ?_ | assumption)))))
    go_ret
    exact ⟨rfl, H.out.drop.drop⟩
  · rw [if_neg hy]
    go_wp2_with (first
        | go_skip
        | ((with_reducible refine isLoad ?_); refine ld1A H ?_ (hT := kIntG) (hm := by (repeat (first | exact List.Mem.head _ | refine List.Mem.tail _ ?_ | refine List.mem_append_right _ ?_ | assumption)))))
    go_at_call 50
    refine (Try.cmp_Compare_int ax bx _).mono ?_
    rintro _ _ ⟨rfl, rfl⟩
    rw [C2.out hy]
    go_wp2_with (first
        | go_skip
        | ((with_reducible refine isLoad ?_); refine ld1A H ?_ (hT := kIntG) (hm := by (repeat (first | exact List.Mem.head _ | refine List.Mem.tail _ ?_ | refine List.mem_append_right _ ?_ | assumption)))))
    go_ret
    exact ⟨rfl, H.out.drop.drop⟩
set_option maxHeartbeats 4000000 in
theorem gridCheck_any (E : Ents) (A : Option Addr) (n c : Nat) (cs : List CeP) (w0 w : World) (m : Ents) (H : Hid (Hp w0 w m)) (RX : Hid (RowIn E 78 2 (.slice A n c) n (flat CeP.cells cs))) (hE : Hid (∀ x ∈ E, x ∈ m)) (OK : Hid (OkC cs)) (hn : n ≤ 400) :
    Calls Try.prog 34 #[.slice A n c] w fun e w' => e = .returned (.int .i64 0) ∧ Hp w0 w' m := by
  have hcl := Lib.hid (RX.out.len CeP.len (by decide))
  have hd0 : decide ((400 : Int) < n) = false := decide_eq_false (by omega)
  go_enter Try.func34, Try.ntmps34
  go_wp2_with (first
      | go_skip)
  go_loopw [10] (fun i_ wr => ∃ i : Nat, i_ = .int .i64 i ∧ i ≤ n ∧ Hid (Hp w0 wr m)) (fun i_ _ => n - (intOf i_).toNat)
  case atStart => exact ⟨0, rfl, by omega, H⟩
  case round =>
    clear H
    obtain ⟨i, rfl, hi, H⟩ := hrel
    by_cases hlt : i < n
    · obtain ⟨c1, hc1⟩ : ∃ c1, cs[i]? = some c1 := ⟨_, List.getElem?_eq_getElem (by rw [hcl.out]; exact hlt)⟩
      obtain ⟨gs, c', e1, hr⟩ := RX.out.at_ CeP.len hc1 (by decide)
      injection e1 with e1 _ e3
      subst e1
      have X := Lib.hid (hr _ (H.out.hld hE.out))
      have ON := Lib.hid (OK.out.1 c1 (List.mem_of_getElem? hc1))
      have HC1 := Lib.hid hc1
      clear hr e3 hc1
      go_wp2_with (first
          | go_skip
          | ((with_reducible refine isLoad ?_); refine ldX (cs := [.int .i64 c1.x, .int .i64 c1.y]) X ?_ (hT := rCel))
          | ((with_reducible refine isAlloc ?_); refine alA H ?_ (hz := zCel); clear H; intro b4 _ H)
          | ((with_reducible refine isStore ?_); refine stA H ?_ (hT := rCel) (hu := by (repeat (first | apply Upd.head | apply Upd.tail | apply Upd.appA | assumption))); clear H; intro _ H)
          | ((with_reducible refine isLoad ?_); refine ld1A H ?_ (hT := kIntG) (hm := by (repeat (first | exact List.Mem.head _ | refine List.Mem.tail _ ?_ | refine List.mem_append_right _ ?_ | assumption)))))
      go_at_call 43
      refine (on_any c1.x _ (by have := ON.out; unfold onC at this; omega) (by have := ON.out; unfold onC at this; omega)).mono ?_
      rintro _ _ ⟨rfl, rfl⟩
      go_wp2_with (first
          | go_skip
          | ((with_reducible refine isLoad ?_); refine ldX (cs := [.int .i64 c1.x, .int .i64 c1.y]) X ?_ (hT := rCel))
          | ((with_reducible refine isAlloc ?_); refine alA H ?_ (hz := zCel); clear H; intro b4 _ H)
          | ((with_reducible refine isStore ?_); refine stA H ?_ (hT := rCel) (hu := by (repeat (first | apply Upd.head | apply Upd.tail | apply Upd.appA | assumption))); clear H; intro _ H)
          | ((with_reducible refine isLoad ?_); refine ld1A H ?_ (hT := kIntG) (hm := by (repeat (first | exact List.Mem.head _ | refine List.Mem.tail _ ?_ | refine List.mem_append_right _ ?_ | assumption)))))
      go_at_call 43
      refine (on_any c1.y _ (by have := ON.out; unfold onC at this; omega) (by have := ON.out; unfold onC at this; omega)).mono ?_
      rintro _ _ ⟨rfl, rfl⟩
      go_wp2_with (first
          | go_skip
          | ((with_reducible refine isLoad ?_); refine ldX (cs := [.int .i64 c1.x, .int .i64 c1.y]) X ?_ (hT := rCel))
          | ((with_reducible refine isAlloc ?_); refine alA H ?_ (hz := zCel); clear H; intro b4 _ H)
          | ((with_reducible refine isStore ?_); refine stA H ?_ (hT := rCel) (hu := by (repeat (first | apply Upd.head | apply Upd.tail | apply Upd.appA | assumption))); clear H; intro _ H)
          | ((with_reducible refine isLoad ?_); refine ld1A H ?_ (hT := kIntG) (hm := by (repeat (first | exact List.Mem.head _ | refine List.Mem.tail _ ?_ | refine List.mem_append_right _ ?_ | assumption)))))
      rcases Nat.eq_zero_or_pos i with hi0 | hi0
      · subst hi0
        refine wp_region_Y 11 [.c (.int .i64 0), .c (.bool false), .c (.bool false), .c undef, .c undef, .c undef, .c undef, .c undef, .c undef, .c undef, .c undef] (m) H (by (repeat (first | exact List.Sublist.refl _ | refine List.Sublist.cons_cons _ ?_ | refine List.Sublist.append_left ?_ _ | refine List.Sublist.trans ?_ (List.sublist_append_right _ _) | refine List.Sublist.cons _ ?_))) (by kernel_rfl) (by kernel_rfl) (by kernel_rfl) ?_
        simp only [List.take_succ_cons, List.take_zero, List.drop_succ_cons, List.drop_zero]
        refine wpY_c (by rfl) (by (first | exact wanted_none rfl | exact wanted_some rfl rfl)) (by intro W _; first | (go_simp; rfl) | (go_simp; done) | (trace_state; fail)) ?_
        (simp only [Act.put, List.setIfInBounds_toArray, List.set_cons_succ, List.set_cons_zero])
        refine wpY_c (by rfl) (by (first | exact wanted_none rfl | exact wanted_some rfl rfl)) (by intro W _; first | (go_simp; rfl) | (go_simp; done) | (trace_state; fail)) ?_
        (simp only [Act.put, List.setIfInBounds_toArray, List.set_cons_succ, List.set_cons_zero])
        refine wpY_c (by rfl) (by (first | exact wanted_none rfl | exact wanted_some rfl rfl)) (by intro W _; first | (go_simp; rfl) | (go_simp; done) | (trace_state; fail)) ?_
        (simp only [Act.put, List.setIfInBounds_toArray, List.set_cons_succ, List.set_cons_zero])
        refine wpY_skip (by rfl) rfl rfl ?_
        (simp only [Act.put, List.setIfInBounds_toArray, List.set_cons_succ, List.set_cons_zero])
        refine wpY_skip (by rfl) rfl rfl ?_
        (simp only [Act.put, List.setIfInBounds_toArray, List.set_cons_succ, List.set_cons_zero])
        refine wpY_skip (by rfl) rfl rfl ?_
        (simp only [Act.put, List.setIfInBounds_toArray, List.set_cons_succ, List.set_cons_zero])
        refine wpY_skip (by rfl) rfl rfl ?_
        (simp only [Act.put, List.setIfInBounds_toArray, List.set_cons_succ, List.set_cons_zero])
        refine wpY_skip (by rfl) rfl rfl ?_
        (simp only [Act.put, List.setIfInBounds_toArray, List.set_cons_succ, List.set_cons_zero])
        refine wpY_skip (by rfl) rfl rfl ?_
        (simp only [Act.put, List.setIfInBounds_toArray, List.set_cons_succ, List.set_cons_zero])
        refine wpY_skip (by rfl) rfl rfl ?_
        (simp only [Act.put, List.setIfInBounds_toArray, List.set_cons_succ, List.set_cons_zero])
        refine wpY_skip (by rfl) rfl rfl ?_
        (simp only [Act.put, List.setIfInBounds_toArray, List.set_cons_succ, List.set_cons_zero])
        refine wpY_nil ?_
        clear H
        intro _ H
        go_wp2_with (first
            | go_skip)
        go_roundw
        case rel => exact ⟨1, by go_num, by omega, Lib.hid H.out.drop⟩
        case measure => simp [intOf]; omega
      · obtain ⟨q, rfl⟩ : ∃ q, i = q + 1 := ⟨i - 1, by omega⟩
        obtain ⟨c0, hc0⟩ : ∃ c0, cs[q]? = some c0 := ⟨_, List.getElem?_eq_getElem (by rw [hcl.out]; omega)⟩
        have LT := Lib.hid (ltC_at OK.out hc0 HC1.out)
        obtain ⟨gs', c', e1, hr⟩ := RX.out.at_ CeP.len hc0 (by decide)
        injection e1 with e1 _ e3
        cases e1
        have X0 := Lib.hid hr
        clear hr e3 hc0 X
        have hdq : decide (0 < q + 1) = true := decide_eq_true (by omega)
        have hsub : IntKind.i64.wrap (((q + 1 : Nat) : Int) - 1) = (q : Int) := by rw [IntWalk.i64_in _ (by omega)]; omega
        obtain ⟨p, hp⟩ : ∃ p : Nat, q + 1 = p := ⟨_, rfl⟩
        have hqn : q < n := by omega
        have hpn : p < n := by omega
        rw [hp] at hdq hsub ⊢
        have HP := Lib.hid hp
        clear hp hlt hi0
        refine wp_region_Y 11 [.c (.int .i64 p), .c (.bool true), .c (.bool true), .c (.slice (some ⟨gs, 0, none⟩) n c), .c (.int .i64 p), .c (.int .i64 q), .c (.pointer (some ⟨gs, q * 2, none⟩)), .c (.agg #[.int .i64 c0.x, .int .i64 c0.y]), .c (.agg #[.int .i64 c1.x, .int .i64 c1.y]), .y, .c (.bool false)] ((b4, 78, [.int .i64 c1.x, .int .i64 c1.y]) :: m) H (by (repeat (first | exact List.Sublist.refl _ | refine List.Sublist.cons_cons _ ?_ | refine List.Sublist.append_left ?_ _ | refine List.Sublist.trans ?_ (List.sublist_append_right _ _) | refine List.Sublist.cons _ ?_))) (by kernel_rfl) (by kernel_rfl) (by kernel_rfl) ?_
        simp only [List.take_succ_cons, List.take_zero, List.drop_succ_cons, List.drop_zero]
        refine wpY_c (by rfl) (by (first | exact wanted_none rfl | exact wanted_some rfl rfl)) (by intro W _; first | (go_simp; rfl) | (go_simp; done) | (trace_state; fail)) ?_
        (simp only [Act.put, List.setIfInBounds_toArray, List.set_cons_succ, List.set_cons_zero])
        refine wpY_c (by rfl) (by (first | exact wanted_none rfl | exact wanted_some rfl rfl)) (by intro W _; first | (go_simp; rfl) | (go_simp; done) | (trace_state; fail)) ?_
        (simp only [Act.put, List.setIfInBounds_toArray, List.set_cons_succ, List.set_cons_zero])
        refine wpY_c (by rfl) (by (first | exact wanted_none rfl | exact wanted_some rfl rfl)) (by intro W _; first | (go_simp; rfl) | (go_simp; done) | (trace_state; fail)) ?_
        (simp only [Act.put, List.setIfInBounds_toArray, List.set_cons_succ, List.set_cons_zero])
        refine wpY_c (by rfl) (by (first | exact wanted_none rfl | exact wanted_some rfl rfl)) (by intro W _; first | (go_simp; rfl) | (go_simp; done) | (trace_state; fail)) ?_
        (simp only [Act.put, List.setIfInBounds_toArray, List.set_cons_succ, List.set_cons_zero])
        refine wpY_c (by rfl) (by (first | exact wanted_none rfl | exact wanted_some rfl rfl)) (by intro W _; first | (go_simp; rfl) | (go_simp; done) | (trace_state; fail)) ?_
        (simp only [Act.put, List.setIfInBounds_toArray, List.set_cons_succ, List.set_cons_zero])
        refine wpY_c (by rfl) (by (first | exact wanted_none rfl | exact wanted_some rfl rfl)) (by intro W _; first | (go_simp; rfl) | (go_simp; done) | (trace_state; fail)) ?_
        (simp only [Act.put, List.setIfInBounds_toArray, List.set_cons_succ, List.set_cons_zero])
        refine wpY_c (by rfl) (by (first | exact wanted_none rfl | exact wanted_some rfl rfl)) (by intro W _; first | (go_simp; rfl) | (go_simp; done) | (trace_state; fail)) ?_
        (simp only [Act.put, List.setIfInBounds_toArray, List.set_cons_succ, List.set_cons_zero])
        refine wpY_loadS (by rfl) (by rfl) (by (first | exact wanted_none rfl | exact wanted_some rfl rfl)) rCel (by rfl) (by intro W HW; exact X0.out W (HW.out.hld fun z hz => .tail _ (hE.out z hz))) (by rfl) ?_
        (simp only [Act.put, List.setIfInBounds_toArray, List.set_cons_succ, List.set_cons_zero])
        refine wpY_load (by rfl) (by rfl) (by (first | exact wanted_none rfl | exact wanted_some rfl rfl)) rCel (by rfl) (by (repeat (first | exact List.Mem.head _ | refine List.Mem.tail _ ?_ | refine List.mem_append_right _ ?_ | assumption))) (by first | rfl | ((simp only [List.drop, List.take]); rfl)) (by rfl) ?_
        (simp only [Act.put, List.setIfInBounds_toArray, List.set_cons_succ, List.set_cons_zero])
        refine wpY_y (by rfl) (by (first | exact wanted_none rfl | exact wanted_some rfl rfl)) (fun G F W HF hG => ?_)
        go_simp
        unfold upY
        refine Calls.mono (order_any c0 c1 w0 W _ HF LT.out) ?_
        rintro _ W2 ⟨rfl, h2⟩
        refine ⟨_, rfl, hG _ _ _ h2 (List.Sublist.refl _) ?_⟩
        clear HF hG h2
        (simp only [Act.put, List.setIfInBounds_toArray, List.set_cons_succ, List.set_cons_zero])
        refine wpY_c (by rfl) (by (first | exact wanted_none rfl | exact wanted_some rfl rfl)) (by intro W _; first | (go_simp; rfl) | (go_simp; done) | (trace_state; fail)) ?_
        (simp only [Act.put, List.setIfInBounds_toArray, List.set_cons_succ, List.set_cons_zero])
        refine wpY_nil ?_
        clear H
        intro _ H
        go_wp2_with (first
            | go_skip)
        have hp2 := HP.out
        go_roundw
        case rel => exact ⟨p + 1, by go_num, by omega, Lib.hid H.out.drop⟩
        case measure => simp [intOf]; omega
    · obtain rfl : i = n := by omega
      go_wp2_with (first
          | go_skip)
      go_ret
      exact ⟨rfl, H.out⟩
end Go.Proofs.Ythepafendopfhaa

namespace Go.Proofs.Ythepafendopfhaa
open Go.RowKit
set_option linter.unusedVariables false
set_option maxRecDepth 100000

/-- A message. -/
structure MsP where
  kind : Int
  frm : Int
  dst : Int
  seq : Int
  clock : Int
  cells : List CeP
/-- A message in memory: where its cells lie. -/
abbrev MsP.v (x : MsP) (A : Option Addr) (n c : Nat) : List Value := [.int .i64 x.kind, .int .i64 x.frm, .int .i64 x.dst, .int .i64 x.seq, .int .u32 x.clock, .slice A n c]
structure MsP.fit (x : MsP) : Prop where
  k0 : 0 ≤ x.kind
  k3 : x.kind ≤ 3
  f0 : 0 ≤ x.frm
  f3 : x.frm ≤ 3
  d0 : 0 ≤ x.dst
  d3 : x.dst ≤ 3
  s0 : 0 ≤ x.seq
  s1 : x.seq ≤ 2147483647
  c0 : 0 ≤ x.clock
  c1 : x.clock < 4294967296
  cs : OkC x.cells
  cl : x.cells.length ≤ 9
  beat : x.kind = 3 → x.cells = []
theorem rMsg : RowT Try.prog 39 6 := ⟨⟨_, Try.underlying39, rfl⟩, by kernel_rfl⟩
theorem zMsg : (Try.prog.info? 39).bind (·.zero) = some (.agg #[.int .i64 0, .int .i64 0, .int .i64 0, .int .i64 0, .int .u32 0, .slice none 0 0]) := by kernel_rfl
theorem kU32 : ∃ d, Try.prog.underlying 27 = some d ∧ d.isRow = false := ⟨_, Try.underlying27, rfl⟩
theorem sU32 : (Try.prog.info? 27).map (·.size) = some 1 := by kernel_rfl
theorem kCls : ∃ d, Try.prog.underlying 37 = some d ∧ d.isRow = false := ⟨_, Try.underlying37, rfl⟩
theorem sCls : (Try.prog.info? 37).map (·.size) = some 1 := by kernel_rfl
set_option maxHeartbeats 4000000 in
theorem mCheck_any (x : MsP) (E : Ents) (A : Option Addr) (n c : Nat) (w0 w : World) (m : Ents) (H : Hid (Hp w0 w m)) (RX : Hid (RowIn E 78 2 (.slice A n c) n (flat CeP.cells x.cells))) (hE : Hid (∀ x ∈ E, x ∈ m)) (F : Hid x.fit) (hne : Hid (x.frm ≠ x.dst)) :
    Calls Try.prog 22 #[.agg (x.v A n c).toArray] w fun e w' => e = .returned (.int .i64 0) ∧ Hp w0 w' m := by
  obtain ⟨k, f, d, s, l, cs⟩ := x
  show Calls Try.prog 22 #[.agg #[.int .i64 k, .int .i64 f, .int .i64 d, .int .i64 s, .int .u32 l, .slice A n c]] w _
  have hn : n ≤ 9 := by rw [← RX.out.len CeP.len (by decide)]; exact F.out.cl
  have e1 : decide (k < 0) = false := decide_eq_false (by have := F.out.k0; simp at this; omega)
  have e2 : decide (3 < k) = false := decide_eq_false (by have := F.out.k3; simp at this; omega)
  have e3 : decide (min f d < 0) = false := decide_eq_false (by have h1 := F.out.f0; have h2 := F.out.d0; simp at h1 h2; omega)
  have e4 : decide (4 < max f d) = false := decide_eq_false (by have h1 := F.out.f3; have h2 := F.out.d3; simp at h1 h2; omega)
  have e6 : decide (s < 0) = false := decide_eq_false (by have := F.out.s0; simp at this; omega)
  have e7 : decide (2147483647 < s) = false := decide_eq_false (by have := F.out.s1; simp at this; omega)
  have e5 : (f == d) = false := beq_eq_false_iff_ne.2 hne.out
  by_cases hk : k = 3
  · have hn0 : n = 0 := by
      have h1 := F.out.beat hk
      have h2 := RX.out.len CeP.len (by decide)
      simp only at h1 h2
      rw [h1] at h2
      simpa using h2.symm
    subst hn0
    have e8 : (k == 3) = true := beq_iff_eq.2 hk
    clear hk
    go_enter Try.func22, Try.ntmps22
    go_wp2_with (first
        | go_skip
        | ((with_reducible refine isBox ?_); refine bxA H ?_; clear H; intro b1 _ H)
        | ((with_reducible refine isLoad ?_); refine ld1A H ?_ (hT := by first | exact kIntG | exact kCls | exact kU32) (hm := by (repeat (first | exact List.Mem.head _ | refine List.Mem.tail _ ?_ | refine List.mem_append_right _ ?_ | assumption)))))
    go_at_call 34
    refine Calls.mono (gridCheck_any E A 0 c cs w0 _ _ H RX (Lib.hid fun z hz => .tail _ (hE.out z hz)) (Lib.hid F.out.cs) (by omega)) ?_
    rintro _ _ ⟨rfl, h2⟩
    replace H := Lib.hid h2
    clear h2
    go_wp2_with (first
        | go_skip
        | ((with_reducible refine isBox ?_); refine bxA H ?_; clear H; intro b1 _ H)
        | ((with_reducible refine isLoad ?_); refine ld1A H ?_ (hT := by first | exact kIntG | exact kCls | exact kU32) (hm := by (repeat (first | exact List.Mem.head _ | refine List.Mem.tail _ ?_ | refine List.mem_append_right _ ?_ | assumption)))))
    go_ret
    exact ⟨rfl, H.out.drop⟩
  · have e8 : (k == 3) = false := beq_eq_false_iff_ne.2 hk
    clear hk
    go_enter Try.func22, Try.ntmps22
    go_wp2_with (first
        | go_skip
        | ((with_reducible refine isBox ?_); refine bxA H ?_; clear H; intro b1 _ H)
        | ((with_reducible refine isLoad ?_); refine ld1A H ?_ (hT := by first | exact kIntG | exact kCls | exact kU32) (hm := by (repeat (first | exact List.Mem.head _ | refine List.Mem.tail _ ?_ | refine List.mem_append_right _ ?_ | assumption)))))
    go_at_call 34
    refine Calls.mono (gridCheck_any E A n c cs w0 _ _ H RX (Lib.hid fun z hz => .tail _ (hE.out z hz)) (Lib.hid F.out.cs) (by omega)) ?_
    rintro _ _ ⟨rfl, h2⟩
    replace H := Lib.hid h2
    clear h2
    go_wp2_with (first
        | go_skip
        | ((with_reducible refine isBox ?_); refine bxA H ?_; clear H; intro b1 _ H)
        | ((with_reducible refine isLoad ?_); refine ld1A H ?_ (hT := by first | exact kIntG | exact kCls | exact kU32) (hm := by (repeat (first | exact List.Mem.head _ | refine List.Mem.tail _ ?_ | refine List.mem_append_right _ ?_ | assumption)))))
    go_ret
    exact ⟨rfl, H.out.drop⟩
set_option maxHeartbeats 4000000 in
theorem mCheck_same (x : MsP) (E : Ents) (A : Option Addr) (n c : Nat) (w0 w : World) (m : Ents) (H : Hid (Hp w0 w m)) (RX : Hid (RowIn E 78 2 (.slice A n c) n (flat CeP.cells x.cells))) (hE : Hid (∀ x ∈ E, x ∈ m)) (F : Hid x.fit) (hne : Hid (x.frm = x.dst)) :
    Calls Try.prog 22 #[.agg (x.v A n c).toArray] w fun e w' => e = .returned (.int .i64 16) ∧ Hp w0 w' m := by
  obtain ⟨k, f, d, s, l, cs⟩ := x
  show Calls Try.prog 22 #[.agg #[.int .i64 k, .int .i64 f, .int .i64 d, .int .i64 s, .int .u32 l, .slice A n c]] w _
  have hn : n ≤ 9 := by rw [← RX.out.len CeP.len (by decide)]; exact F.out.cl
  have e1 : decide (k < 0) = false := decide_eq_false (by have := F.out.k0; simp at this; omega)
  have e2 : decide (3 < k) = false := decide_eq_false (by have := F.out.k3; simp at this; omega)
  have e3 : decide (min f d < 0) = false := decide_eq_false (by have h1 := F.out.f0; have h2 := F.out.d0; simp at h1 h2; omega)
  have e4 : decide (4 < max f d) = false := decide_eq_false (by have h1 := F.out.f3; have h2 := F.out.d3; simp at h1 h2; omega)
  have e6 : decide (s < 0) = false := decide_eq_false (by have := F.out.s0; simp at this; omega)
  have e7 : decide (2147483647 < s) = false := decide_eq_false (by have := F.out.s1; simp at this; omega)
  have hfd : f = d := hne.out
  have e5 : (f == d) = true := beq_iff_eq.2 hfd
  clear hfd
  go_enter Try.func22, Try.ntmps22
  go_wp2_with (first
      | go_skip
      | ((with_reducible refine isBox ?_); refine bxA H ?_; clear H; intro b1 _ H)
      | ((with_reducible refine isLoad ?_); refine ld1A H ?_ (hT := by first | exact kIntG | exact kCls | exact kU32) (hm := by (repeat (first | exact List.Mem.head _ | refine List.Mem.tail _ ?_ | refine List.mem_append_right _ ?_ | assumption)))))
  go_ret
  exact ⟨rfl, H.out.drop⟩
end Go.Proofs.Ythepafendopfhaa

namespace Go.Proofs.Ythepafendopfhaa
open Go.RowKit
set_option linter.unusedVariables false
set_option maxRecDepth 100000

def cellsB (cs : List CeP) : List Int := cs.flatMap fun c => [c.x + 64, c.y + 64]
def hdrB (x : MsP) : List Int := [x.kind, x.frm, x.dst] ++ be4 x.seq ++ be4 x.clock ++ lenB x.cells.length
def bodyB (x : MsP) : List Int := hdrB x ++ cellsB x.cells
/-- The bytes of a message. -/
def wrB (x : MsP) : List Int := bodyB x ++ be4 (crc (bodyB x))
theorem cellsB_len (cs : List CeP) : (cellsB cs).length = 2 * cs.length := by
  unfold cellsB
  induction cs with
  | nil => rfl
  | cons c cs ih =>
    rw [List.flatMap_cons, List.length_append, ih]
    simp
    omega
theorem hdrB_len (x : MsP) : (hdrB x).length = 13 := rfl
theorem cellsB_take {cs : List CeP} {i : Nat} {c : CeP} (h : cs[i]? = some c) : cellsB (cs.take (i + 1)) = cellsB (cs.take i) ++ [c.x + 64, c.y + 64] := by
  unfold cellsB
  rw [List.take_add_one, h, List.flatMap_append]
  rfl
theorem RowV.lit {g n : Nat} {xs : List Value} (h : xs.length = n) (hn : n ≤ 100000) : RowV 1 (.slice (some ⟨g, 0, none⟩) n n) n xs xs :=
  ⟨by simp [h], .inr ⟨g, n, rfl, Nat.le_refl _, by unfold maxLen; omega, by simp [h], List.take_of_length_le (by simp [h])⟩⟩
set_option maxHeartbeats 4000000 in
theorem Write_same (x : MsP) (E : Ents) (A : Option Addr) (n c : Nat) (w0 w : World) (m : Ents) (H : Hid (Hp w0 w m)) (RX : Hid (RowIn E 78 2 (.slice A n c) n (flat CeP.cells x.cells))) (hE : Hid (∀ x ∈ E, x ∈ m)) (F : Hid x.fit) (hne : Hid (x.frm = x.dst)) :
    Calls Try.prog 14 #[.agg (x.v A n c).toArray] w fun e w' => e = .returned (.tuple #[.slice none 0 0, .int .i64 16]) ∧ Hp w0 w' m := by
  go_enter Try.func14, Try.ntmps14
  go_wp2_with (first
      | go_skip
      | ((with_reducible refine isBox ?_); refine bxA H ?_; clear H; intro b1 _ H)
      | ((with_reducible refine isLoad ?_); refine ldA H ?_ (hT := rMsg) (hm := by (repeat (first | exact List.Mem.head _ | refine List.Mem.tail _ ?_ | refine List.mem_append_right _ ?_ | assumption)))))
  go_at_call 22
  refine Calls.mono (mCheck_same x E A n c w0 _ _ H RX (Lib.hid fun z hz => .tail _ (hE.out z hz)) F hne) ?_
  rintro _ _ ⟨rfl, h2⟩
  replace H := Lib.hid h2
  clear h2
  go_wp2_with (first
      | go_skip
      | ((with_reducible refine isBox ?_); refine bxA H ?_; clear H; intro b1 _ H)
      | ((with_reducible refine isLoad ?_); refine ldA H ?_ (hT := rMsg) (hm := by (repeat (first | exact List.Mem.head _ | refine List.Mem.tail _ ?_ | refine List.mem_append_right _ ?_ | assumption)))))
  go_ret2
  exact ⟨rfl, H.out.drop⟩
set_option maxHeartbeats 8000000 in
theorem Write_any (x : MsP) (E : Ents) (A : Option Addr) (n c : Nat) (w0 w : World) (m : Ents) (H : Hid (Hp w0 w m)) (RX : Hid (RowIn E 78 2 (.slice A n c) n (flat CeP.cells x.cells))) (hE : Hid (∀ x ∈ E, x ∈ m)) (FT : Hid x.fit) (hne : Hid (x.frm ≠ x.dst)) :
    Calls Try.prog 14 #[.agg (x.v A n c).toArray] w fun e w' => ∃ v cur, e = .returned (.tuple #[v, .int .i64 0]) ∧ RowV 1 v (17 + 2 * n) (bv (wrB x)) cur ∧ Hp w0 w' (rowE v 5 cur ++ m) := by
  have hcl := RX.out.len CeP.len (by decide)
  have hn : n ≤ 9 := by rw [← hcl]; exact FT.out.cl
  have ew : IntKind.u32.wrap x.seq = x.seq := by have h1 := FT.out.s0; have h2 := FT.out.s1; simp [IntKind.wrap, IntKind.bits, IntKind.signed]; omega
  have es : x.seq % 4294967296 = x.seq := Int.emod_eq_of_lt FT.out.s0 (by have := FT.out.s1; omega)
  have e1 : x.kind % 256 = x.kind := Int.emod_eq_of_lt FT.out.k0 (by have := FT.out.k3; omega)
  have e2 : x.frm % 256 = x.frm := Int.emod_eq_of_lt FT.out.f0 (by have := FT.out.f3; omega)
  have e3 : x.dst % 256 = x.dst := Int.emod_eq_of_lt FT.out.d0 (by have := FT.out.d3; omega)
  have HCL := Lib.hid hcl
  clear hcl
  go_enter Try.func14, Try.ntmps14
  go_wp2_with (first
      | go_skip
      | ((with_reducible refine isBox ?_); refine bxA H ?_; clear H; intro b1 _ H)
      | ((with_reducible refine isLoad ?_); refine ldA H ?_ (hT := rMsg) (hm := by (repeat (first | exact List.Mem.head _ | refine List.Mem.tail _ ?_ | refine List.mem_append_right _ ?_ | assumption)))))
  go_at_call 22
  refine Calls.mono (mCheck_any x E A n c w0 _ _ H RX (Lib.hid fun z hz => .tail _ (hE.out z hz)) FT hne) ?_
  rintro _ _ ⟨rfl, h2⟩
  replace H := Lib.hid h2
  clear h2
  go_wp2_with (first
      | go_skip
      | ((with_reducible refine isLoad ?_); refine ld1A H ?_ (hT := by first | exact kIntG | exact kCls | exact kU32) (hm := by (repeat (first | exact List.Mem.head _ | refine List.Mem.tail _ ?_ | refine List.mem_append_right _ ?_ | assumption))))
      | ((with_reducible refine isSlcK 3 ?_); refine bsA 5 [.int .u8 x.kind, .int .u8 x.frm, .int .u8 x.dst] 3 H ?_; clear H; intro g3 _ H))
  replace H := (show Hid (Hp w0 _ ((g3, 5, bv [x.kind, x.frm, x.dst]) :: (b1, 39, x.v A n c) :: m)) from H)
  have R0 : Hid (RowV 1 (.slice (some ⟨g3, 0, none⟩) 3 3) 3 (bv [x.kind, x.frm, x.dst]) (bv [x.kind, x.frm, x.dst])) := Lib.hid (RowV.lit rfl (by omega))
  refine wp_region_Y 10 [.c (.slice (some ⟨g3, 0, none⟩) 3 3), .c (.pointer (some ⟨b1, 3, none⟩)), .c (.int .i64 x.seq), .c (.int .u32 x.seq), .y, .y, .c (.pointer (some ⟨b1, 4, none⟩)), .c (.int .u32 x.clock), .y, .y] ((b1, 39, x.v A n c) :: m) H (by (repeat (first | exact List.Sublist.refl _ | refine List.Sublist.cons_cons _ ?_ | refine List.Sublist.append_left ?_ _ | refine List.Sublist.trans ?_ (List.sublist_append_right _ _) | refine List.Sublist.cons _ ?_))) (by kernel_rfl) (by kernel_rfl) (by kernel_rfl) ?_
  simp only [List.take_succ_cons, List.take_zero, List.drop_succ_cons, List.drop_zero]
  refine wpY_c (by rfl) (by (first | exact wanted_none rfl | exact wanted_some rfl rfl)) (by intro W _; first | (go_simp; rfl) | (go_simp; done) | (trace_state; fail)) ?_
  (simp only [Act.put, List.setIfInBounds_toArray, List.set_cons_succ, List.set_cons_zero])
  refine wpY_c (by rfl) (by (first | exact wanted_none rfl | exact wanted_some rfl rfl)) (by intro W _; first | (go_simp; rfl) | (go_simp; done) | (trace_state; fail)) ?_
  (simp only [Act.put, List.setIfInBounds_toArray, List.set_cons_succ, List.set_cons_zero])
  refine wpY_load1 (by rfl) (by rfl) (by (first | exact wanted_none rfl | exact wanted_some rfl rfl)) kIntG (by rfl) (by (repeat (first | exact List.Mem.head _ | refine List.Mem.tail _ ?_ | refine List.mem_append_right _ ?_ | assumption))) (by rfl) ?_
  (simp only [Act.put, List.setIfInBounds_toArray, List.set_cons_succ, List.set_cons_zero])
  refine wpY_c (by rfl) (by (first | exact wanted_none rfl | exact wanted_some rfl rfl)) (by intro W _; first | (go_simp; rfl) | (go_simp; done) | (trace_state; fail)) ?_
  (simp only [Act.put, List.setIfInBounds_toArray, List.set_cons_succ, List.set_cons_zero])
  refine wpY_y (by rfl) (by (first | exact wanted_none rfl | exact wanted_some rfl rfl)) (fun G F W HF hG => ?_)
  go_simp
  unfold upY
  refine Calls.mono (mfour_any x.seq w0 W _ HF (by have := FT.out.s0; omega) (by have := FT.out.s1; omega)) ?_
  rintro _ W2 ⟨g4, rfl, h2⟩
  refine ⟨_, rfl, hG _ _ ((g4, 5, bv (be4 (x.seq))) :: ((g3, 5, bv [x.kind, x.frm, x.dst]) :: ((b1, 39, x.v A n c) :: m))) h2 (by (repeat (first | exact List.Sublist.refl _ | refine List.Sublist.cons_cons _ ?_ | refine List.Sublist.append_left ?_ _ | refine List.Sublist.trans ?_ (List.sublist_append_right _ _) | refine List.Sublist.cons _ ?_))) ?_⟩
  clear HF hG h2
  (simp only [Act.put, List.setIfInBounds_toArray, List.set_cons_succ, List.set_cons_zero])
  refine wpY_app [(g4, 5, bv (be4 x.seq))] ((b1, 39, x.v A n c) :: m) (by rfl) (by (first | exact wanted_none rfl | exact wanted_some rfl rfl)) R0 iByt (by decide) Try.underlying44 (by rfl) (by rfl) (by rfl) (.head _) (by rfl) (by rfl) (by omega) (by unfold maxLen; omega) (by omega) (by rfl) (by intro z hz; simp only [List.cons_append, List.nil_append, List.mem_cons] at hz ⊢; rcases hz with h | h <;> simp [h]) (fun v1 cur1 R1 => ?_)
  (simp only [Act.put, List.setIfInBounds_toArray, List.set_cons_succ, List.set_cons_zero])
  refine wpY_c (by rfl) (by (first | exact wanted_none rfl | exact wanted_some rfl rfl)) (by intro W _; first | (go_simp; rfl) | (go_simp; done) | (trace_state; fail)) ?_
  (simp only [Act.put, List.setIfInBounds_toArray, List.set_cons_succ, List.set_cons_zero])
  refine wpY_load1 (by rfl) (by rfl) (by (first | exact wanted_none rfl | exact wanted_some rfl rfl)) kU32 (by rfl) (by (repeat (first | exact List.Mem.head _ | refine List.Mem.tail _ ?_ | refine List.mem_append_right _ ?_ | assumption))) (by rfl) ?_
  (simp only [Act.put, List.setIfInBounds_toArray, List.set_cons_succ, List.set_cons_zero])
  refine wpY_y (by rfl) (by (first | exact wanted_none rfl | exact wanted_some rfl rfl)) (fun G F W HF hG => ?_)
  go_simp
  unfold upY
  refine Calls.mono (mfour_any x.clock w0 W _ HF (by have := FT.out.c0; omega) (by have := FT.out.c1; omega)) ?_
  rintro _ W2 ⟨g5, rfl, h2⟩
  refine ⟨_, rfl, hG _ _ ((g5, 5, bv (be4 (x.clock))) :: ((g4, 5, bv (be4 x.seq)) :: (rowE v1 5 cur1 ++ ((b1, 39, x.v A n c) :: m)))) h2 (by (repeat (first | exact List.Sublist.refl _ | refine List.Sublist.cons_cons _ ?_ | refine List.Sublist.append_left ?_ _ | refine List.Sublist.trans ?_ (List.sublist_append_right _ _) | refine List.Sublist.cons _ ?_))) ?_⟩
  clear HF hG h2
  (simp only [Act.put, List.setIfInBounds_toArray, List.set_cons_succ, List.set_cons_zero])
  refine wpY_app [(g5, 5, bv (be4 x.clock)), (g4, 5, bv (be4 x.seq))] ((b1, 39, x.v A n c) :: m) (by rfl) (by (first | exact wanted_none rfl | exact wanted_some rfl rfl)) R1 iByt (by decide) Try.underlying44 (by rfl) (by rfl) (by rfl) (.head _) (by rfl) (by rfl) (by omega) (by unfold maxLen; omega) (by omega) (by rfl) (by intro z hz; simp only [List.cons_append, List.nil_append, List.mem_cons] at hz ⊢; rcases hz with h | h <;> simp [h]) (fun v2 cur2 R2 => ?_)
  (simp only [Act.put, List.setIfInBounds_toArray, List.set_cons_succ, List.set_cons_zero])
  refine wpY_nil ?_
  clear H
  intro _ H
  simp only [List.cons_append, List.nil_append] at H
  obtain ⟨B2, c2, rfl, _⟩ := R2.out.shape
  replace H := Lib.hid H.out.drop.drop
  clear R0 R1
  go_wp2_with (first
      | go_skip
      | ((with_reducible refine isLoad ?_); refine ld1A H ?_ (hT := by first | exact kIntG | exact kCls | exact kU32) (hm := by (repeat (first | exact List.Mem.head _ | refine List.Mem.tail _ ?_ | refine List.mem_append_right _ ?_ | assumption))))
      | ((with_reducible refine isSlcK 2 ?_); refine bsA 5 [.int .u8 ((n : Int) / 256), .int .u8 (n : Int)] 2 H ?_; clear H; intro g6 _ H)
      | ((with_reducible refine isApp ?_); refine wpList_appH [(g6, 5, _)] ((b1, 39, x.v A n c) :: m) H R2 (by rfl) iByt (by decide) Try.underlying44 (by rfl) (by rfl) (by rfl) (by rfl) (.head _) (by rfl) (by rfl) (by omega) (by simp only [maxLen]; omega) (by omega) ?_; clear H; intro v3 cur3 _ R3 H; simp only [List.cons_append, List.nil_append] at H))
  have R4 : Hid (RowV 1 v3 13 (bv (hdrB x)) cur3) := Lib.hid (by
    unfold hdrB
    rw [bv_app, bv_app, bv_app, HCL.out, show lenB n = [(n : Int) / 256, (n : Int)] by unfold lenB; rw [Int.emod_eq_of_lt (by omega) (by omega)]]
    exact R3.out)
  replace H := Lib.hid H.out.drop
  clear R2 R3
  obtain ⟨B3, c3, rfl, _⟩ := R4.out.shape
  go_loopw [5, 48] (fun v_ i_ wr => ∃ (i q : Nat) (v : Value) (cur : List Value), v = v_ ∧ i_ = .int .i64 i ∧ i ≤ n ∧ Hid (q = 13 + 2 * i) ∧ Hid (RowV 1 v q (bv (hdrB x ++ cellsB (x.cells.take i))) cur) ∧ Hid (Hp w0 wr (rowE v 5 cur ++ ((b1, 39, x.v A n c) :: m)))) (fun _ i_ _ => n - (intOf i_).toNat)
  case atStart => exact ⟨0, 13, _, cur3, rfl, rfl, by omega, Lib.hid rfl, Lib.hid (by rw [List.take_zero, show cellsB [] = [] from rfl, List.append_nil]; exact R4.out), H⟩
  case round =>
    clear H R4
    obtain ⟨i, q, v, cur, rfl, rfl, hi, hq, R, H⟩ := hrel
    obtain ⟨Bv, cv, rfl, _⟩ := R.out.shape
    have hqb : q ≤ 100 := by have := hq.out; omega
    by_cases hlt : i < n
    · obtain ⟨c1, hc1⟩ : ∃ c1, x.cells[i]? = some c1 := ⟨_, List.getElem?_eq_getElem (by rw [HCL.out]; exact hlt)⟩
      obtain ⟨gs, c', e4, hr⟩ := RX.out.at_ CeP.len hc1 (by decide)
      injection e4 with e4 _ e5
      subst e4
      have X := Lib.hid (hr _ (H.out.hld fun z hz => List.mem_append_right _ (.tail _ (hE.out z hz))))
      have HON := FT.out.cs.1 c1 (List.mem_of_getElem? hc1)
      unfold onC at HON
      have wx : IntKind.i64.wrap (c1.x + 64) = c1.x + 64 := IntWalk.i64_in _ (by omega)
      have wy : IntKind.i64.wrap (c1.y + 64) = c1.y + 64 := IntWalk.i64_in _ (by omega)
      have ex : (c1.x + 64) % 256 = c1.x + 64 := Int.emod_eq_of_lt (by omega) (by omega)
      have ey : (c1.y + 64) % 256 = c1.y + 64 := Int.emod_eq_of_lt (by omega) (by omega)
      have HC1 := Lib.hid hc1
      clear hr e5 hc1
      go_wp2_with (first
          | go_skip
          | ((with_reducible refine isLoad ?_); refine ldX (cs := [.int .i64 c1.x, .int .i64 c1.y]) X ?_ (hT := rCel))
          | ((with_reducible refine isAlloc ?_); refine alA H ?_ (hz := zCel); clear H; intro b7 _ H)
          | ((with_reducible refine isStore ?_); refine stA H ?_ (hT := rCel) (hu := by (repeat (first | apply Upd.head | apply Upd.tail | apply Upd.appA | assumption))); clear H; intro _ H)
          | ((with_reducible refine isLoad ?_); refine ld1A H ?_ (hT := kIntG) (hm := by (repeat (first | exact List.Mem.head _ | refine List.Mem.tail _ ?_ | refine List.mem_append_right _ ?_ | assumption))))
          | ((with_reducible refine isSlcK 2 ?_); refine bsA 5 [.int .u8 (c1.x + 64), .int .u8 (c1.y + 64)] 2 H ?_; clear H; intro g8 _ H)
          | ((with_reducible refine isApp ?_); refine wpList_appH [(g8, 5, _), (b7, 78, _)] ((b1, 39, _) :: m) H R (by rfl) iByt (by decide) Try.underlying44 (by rfl) (by rfl) (by rfl) (by rfl) (.head _) (by rfl) (by rfl) (by omega) (by simp only [maxLen]; omega) (by omega) ?_; clear H; intro v3 cur3 _ R3 H; simp only [List.cons_append, List.nil_append] at H))
      have R' : Hid (RowV 1 v3 (q + 2) (bv (hdrB x ++ cellsB (x.cells.take (i + 1)))) cur3) := Lib.hid (by
        rw [cellsB_take HC1.out, ← List.append_assoc, bv_app]
        exact R3.out)
      go_roundw
      case rel => exact ⟨i + 1, q + 2, v3, cur3, rfl, by go_num, by omega, Lib.hid (by have := hq.out; omega), R', Lib.hid H.out.drop.drop⟩
      case measure => simp [intOf]; omega
    · obtain rfl : i = n := by omega
      have hbd : hdrB x ++ cellsB (x.cells.take i) = bodyB x := by unfold bodyB; rw [List.take_of_length_le (by rw [HCL.out]; omega)]
      rw [hbd] at R
      have hbl : (bodyB x).length = q := by rw [← bv_len]; simpa using R.out.len
      clear hbd
      go_wp2_with (first
          | go_skip)
      go_at_call 30
      refine (Sum_any Bv q cv _ _ ((VIn.of_row R.out).bv (H.out.hld fun z hz => List.mem_append_left _ hz)) hbl (by omega)).mono ?_
      rintro _ _ ⟨rfl, rfl⟩
      go_wp2_with (first
          | go_skip)
      go_at_call 29
      refine Calls.mono (mfour_any (crc (bodyB x)) w0 _ _ H (crc_range _).1 (crc_range _).2) ?_
      rintro _ _ ⟨g9, rfl, h2⟩
      replace H := Lib.hid h2
      clear h2
      go_wp2_with (first
          | go_skip
          | ((with_reducible refine isApp ?_); refine wpList_appH [(g9, 5, _)] ((b1, 39, _) :: m) H R (by rfl) iByt (by decide) Try.underlying44 (by rfl) (by rfl) (by rfl) (by rfl) (.head _) (by rfl) (by rfl) (by omega) (by simp only [maxLen]; omega) (by omega) ?_; clear H; intro v3 cur3 _ R3 H; simp only [List.cons_append, List.nil_append] at H))
      go_ret2
      refine ⟨v3, cur3, rfl, ?_, H.out.drop.sub (List.Sublist.append_left (List.sublist_cons_self _ _) _)⟩
      unfold wrB
      rw [bv_app, show 17 + 2 * i = q + 4 by have := hq.out; omega]
      exact R3.out
end Go.Proofs.Ythepafendopfhaa

namespace Go.Proofs.Ythepafendopfhaa
open Go.RowKit
set_option linter.unusedVariables false
set_option maxRecDepth 100000

theorem utB : Try.prog.underlying 44 = some (.slice (Try.prog.elem 44)) := Try.underlying44
theorem szB : ∀ w, (Go.sizeOf (Try.prog.elem 44)).run Try.prog w = .ok 1 w := by intro w; kernel_rfl
section
variable {P : Program} {ops : Array Oper} {rest : List Oper} {o : Oper} {a : Act} {w0 : World} {l l0 : Ents} {kd : Nat → KdY} {k : Nat} {R : Act → Ents → Prop}
theorem wpY_slLH {t : TypeId} {A : Option Addr} {n c : Nat} (lo hi : Nat) {x u h : Operand} (hk : kd k = .c (.slice (adv A c lo) (hi - lo) (c - lo))) (h1 : lo ≤ hi) (h2 : hi ≤ c) (ht : P.underlying t = some (.slice (P.elem t))) (hz : ∀ w, (Go.sizeOf (P.elem t)).run P w = .ok 1 w) (ho : o.op = .slice t x (some u) (some h) none) (hx : a.eval x = .slice A n c) (hlo : a.eval u = .int .i64 lo) (hhi : a.eval h = .int .i64 hi)
    (hg : Region.wanted o (yielded ops a.tmps) = true) (hK : wpY P ops w0 l0 kd R (k + 1) rest (a.put o.dst (.slice (adv A c lo) (hi - lo) (c - lo))) l) : wpY P ops w0 l0 kd R k (o :: rest) a l :=
  wpY_c hk hg (fun W _ => by
    have hr := run_slice_lh (P := P) W t A n c ht .i64 .i64 (lo : Int) (hi : Int) (by omega) (by omega) (by omega)
    unfold execOp
    simp only [ho, hx, hlo, hhi, Option.map, Sem.run_bind, Sem.run_pure, run_sliceAt_slice W t _ _ _ _ ht, hr, hz, Result.andThen_ok, sliced, Int.toNat_natCast, adv]) hK
theorem wpY_slL {t : TypeId} {A : Option Addr} {n c : Nat} (lo : Nat) {x u : Operand} (hk : kd k = .c (.slice (adv A c lo) (n - lo) (c - lo))) (h1 : lo ≤ n) (ht : P.underlying t = some (.slice (P.elem t))) (hz : ∀ w, (Go.sizeOf (P.elem t)).run P w = .ok 1 w) (ho : o.op = .slice t x (some u) none none) (hx : a.eval x = .slice A n c) (hlo : a.eval u = .int .i64 lo)
    (hg : Region.wanted o (yielded ops a.tmps) = true) (hK : wpY P ops w0 l0 kd R (k + 1) rest (a.put o.dst (.slice (adv A c lo) (n - lo) (c - lo))) l) : wpY P ops w0 l0 kd R k (o :: rest) a l :=
  wpY_c hk hg (fun W _ => by
    have hr := run_slice_l (P := P) W t A n c ht .i64 (lo : Int) (by omega) (by omega)
    unfold execOp
    simp only [ho, hx, hlo, Option.map, Sem.run_bind, Sem.run_pure, run_sliceAt_slice W t _ _ _ _ ht, hr, hz, Result.andThen_ok, sliced, Int.toNat_natCast, adv]) hK
theorem adv_some {g q c lo : Nat} (h : lo < c) : adv (some ⟨g, q, none⟩) c lo = some ⟨g, q + lo, none⟩ := by
  unfold adv
  rw [if_neg (by omega), Option.map_some, Addr.add_lit, Nat.mul_one]
theorem wpY_slLH2 {t : TypeId} {g q n c : Nat} (lo hi : Nat) {x u h : Operand} (hk : kd k = .c (.slice (some ⟨g, q + lo, none⟩) (hi - lo) (c - lo))) (h3 : lo < c) (h1 : lo ≤ hi) (h2 : hi ≤ c) (ht : P.underlying t = some (.slice (P.elem t))) (hz : ∀ w, (Go.sizeOf (P.elem t)).run P w = .ok 1 w) (ho : o.op = .slice t x (some u) (some h) none) (hx : a.eval x = .slice (some ⟨g, q, none⟩) n c) (hlo : a.eval u = .int .i64 lo) (hhi : a.eval h = .int .i64 hi)
    (hg : Region.wanted o (yielded ops a.tmps) = true) (hK : wpY P ops w0 l0 kd R (k + 1) rest (a.put o.dst (.slice (some ⟨g, q + lo, none⟩) (hi - lo) (c - lo))) l) : wpY P ops w0 l0 kd R k (o :: rest) a l :=
  wpY_slLH lo hi (by rw [adv_some h3]; exact hk) h1 h2 ht hz ho hx hlo hhi hg (by rw [adv_some h3]; exact hK)
theorem wpY_slL2 {t : TypeId} {g q n c : Nat} (lo : Nat) {x u : Operand} (hk : kd k = .c (.slice (some ⟨g, q + lo, none⟩) (n - lo) (c - lo))) (h3 : lo < c) (h1 : lo ≤ n) (ht : P.underlying t = some (.slice (P.elem t))) (hz : ∀ w, (Go.sizeOf (P.elem t)).run P w = .ok 1 w) (ho : o.op = .slice t x (some u) none none) (hx : a.eval x = .slice (some ⟨g, q, none⟩) n c) (hlo : a.eval u = .int .i64 lo)
    (hg : Region.wanted o (yielded ops a.tmps) = true) (hK : wpY P ops w0 l0 kd R (k + 1) rest (a.put o.dst (.slice (some ⟨g, q + lo, none⟩) (n - lo) (c - lo))) l) : wpY P ops w0 l0 kd R k (o :: rest) a l :=
  wpY_slL lo (by rw [adv_some h3]; exact hk) h1 ht hz ho hx hlo hg (by rw [adv_some h3]; exact hK)
theorem wpY_slH2 {t : TypeId} {g q n c : Nat} (hi : Nat) {x u : Operand} (hk : kd k = .c (.slice (some ⟨g, q, none⟩) hi c)) (h3 : 0 < c) (h1 : hi ≤ c) (ht : P.underlying t = some (.slice (P.elem t))) (hz : ∀ w, (Go.sizeOf (P.elem t)).run P w = .ok 1 w) (ho : o.op = .slice t x none (some u) none) (hx : a.eval x = .slice (some ⟨g, q, none⟩) n c) (hhi : a.eval u = .int .i64 hi)
    (hg : Region.wanted o (yielded ops a.tmps) = true) (hK : wpY P ops w0 l0 kd R (k + 1) rest (a.put o.dst (.slice (some ⟨g, q, none⟩) hi c)) l) : wpY P ops w0 l0 kd R k (o :: rest) a l :=
  wpY_c hk hg (fun W _ => by
    have hr := run_slice_h (P := P) W t (some ⟨g, q, none⟩) n c ht .i64 (hi : Int) (by omega) (by omega)
    unfold execOp
    simp only [ho, hx, hhi, Option.map, Sem.run_bind, Sem.run_pure, run_sliceAt_slice W t _ _ _ _ ht, hr, hz, Result.andThen_ok, sliced, Int.toNat_natCast]
    rw [if_neg (by omega), Nat.zero_mul, Addr.add_lit, Nat.add_zero, Nat.sub_zero, Nat.sub_zero]) hK
end
theorem bv_part (xs : List Int) (lo hi : Nat) : ((bv xs).take hi).drop lo = bv ((xs.take hi).drop lo) := by
  unfold bv
  rw [← List.map_take, ← List.map_drop]
theorem wrB_len (x : MsP) : (wrB x).length = 17 + 2 * x.cells.length := by
  unfold wrB bodyB
  rw [List.length_append, List.length_append, cellsB_len, hdrB_len, be4_len]
  omega
theorem bodyB_len (x : MsP) : (bodyB x).length = 13 + 2 * x.cells.length := by
  unfold bodyB
  rw [List.length_append, cellsB_len, hdrB_len]
theorem wrB_body (x : MsP) : (wrB x).take (13 + 2 * x.cells.length) = bodyB x := by
  unfold wrB
  rw [← bodyB_len]
  exact List.take_left
theorem wrB_sum (x : MsP) : (wrB x).drop (13 + 2 * x.cells.length) = be4 (crc (bodyB x)) := by
  unfold wrB
  rw [← bodyB_len]
  exact List.drop_left
theorem wrB_hdr (x : MsP) : ∃ t, wrB x = hdrB x ++ t := ⟨cellsB x.cells ++ be4 (crc (bodyB x)), by unfold wrB bodyB; rw [List.append_assoc]⟩
theorem wrB_seq (x : MsP) : ((wrB x).take 7).drop 3 = be4 x.seq := by
  obtain ⟨t, h⟩ := wrB_hdr x
  rw [h]
  rfl
theorem wrB_clock (x : MsP) : ((wrB x).take 11).drop 7 = be4 x.clock := by
  obtain ⟨t, h⟩ := wrB_hdr x
  rw [h]
  rfl
theorem wrB_num (x : MsP) : ((wrB x).take 13).drop 11 = lenB x.cells.length := by
  obtain ⟨t, h⟩ := wrB_hdr x
  rw [h]
  rfl
theorem wrB_0 (x : MsP) : (wrB x)[0]? = some x.kind := by
  obtain ⟨t, h⟩ := wrB_hdr x
  rw [h]
  rfl
theorem wrB_1 (x : MsP) : (wrB x)[1]? = some x.frm := by
  obtain ⟨t, h⟩ := wrB_hdr x
  rw [h]
  rfl
theorem wrB_2 (x : MsP) : (wrB x)[2]? = some x.dst := by
  obtain ⟨t, h⟩ := wrB_hdr x
  rw [h]
  rfl
theorem lenB_num {n : Nat} : numB (lenB n) = n := by
  show (0 * 256 + (n : Int) / 256) * 256 + (n : Int) % 256 = n
  omega
theorem cellsB_at {cs : List CeP} {i : Nat} {c : CeP} (h : cs[i]? = some c) : (cellsB cs)[2 * i]? = some (c.x + 64) ∧ (cellsB cs)[2 * i + 1]? = some (c.y + 64) := by
  have h1 := cellsB_take h
  have hi := lt_of_at h
  have h2 : cellsB cs = cellsB (cs.take (i + 1)) ++ cellsB (cs.drop (i + 1)) := by
    unfold cellsB
    rw [← List.flatMap_append, List.take_append_drop]
  have h3 : (cellsB (cs.take i)).length = 2 * i := by rw [cellsB_len, List.length_take]; omega
  rw [h2, h1]
  constructor
  · rw [List.append_assoc, List.getElem?_append_right (by omega), h3, Nat.sub_self]
    rfl
  · rw [List.append_assoc, List.getElem?_append_right (by omega), h3, show 2 * i + 1 - 2 * i = 1 by omega]
    rfl
theorem wrB_cell {x : MsP} {i : Nat} {c : CeP} (h : x.cells[i]? = some c) : (wrB x)[13 + 2 * i]? = some (c.x + 64) ∧ (wrB x)[14 + 2 * i]? = some (c.y + 64) := by
  obtain ⟨h1, h2⟩ := cellsB_at h
  have hi := lt_of_at h
  unfold wrB
  constructor
  · rw [List.getElem?_append_left (by rw [bodyB_len]; omega)]
    unfold bodyB
    rw [List.getElem?_append_right (by rw [hdrB_len]; omega), hdrB_len, show 13 + 2 * i - 13 = 2 * i by omega]
    exact h1
  · rw [List.getElem?_append_left (by rw [bodyB_len]; omega)]
    unfold bodyB
    rw [List.getElem?_append_right (by rw [hdrB_len]; omega), hdrB_len, show 14 + 2 * i - 13 = 2 * i + 1 by omega]
    exact h2
end Go.Proofs.Ythepafendopfhaa

namespace Go.Proofs.Ythepafendopfhaa
open Go.RowKit
set_option linter.unusedVariables false
set_option maxRecDepth 100000

theorem iCel : InfoT Try.prog 78 2 16 := InfoT.of zCel (by kernel_rfl) rfl
theorem wrB_byt {x : MsP} (F : x.fit) : Byt (wrB x) := by
  have hb : Byt (bodyB x) := by
    intro z hz
    unfold bodyB hdrB at hz
    simp only [List.mem_append, List.mem_cons, List.not_mem_nil, or_false] at hz
    rcases hz with (((hz | hz) | hz) | hz) | hz
    · have h1 := F.k0; have h2 := F.k3; have h3 := F.f0; have h4 := F.f3; have h5 := F.d0; have h6 := F.d3
      rcases hz with rfl | rfl | rfl <;> omega
    · exact be4_byt F.s0 (by have := F.s1; omega) z hz
    · exact be4_byt F.c0 F.c1 z hz
    · exact lenB_byt (by have := F.cl; omega) z hz
    · unfold cellsB at hz
      obtain ⟨c, hc, hz⟩ := List.mem_flatMap.1 hz
      have h1 := F.cs.1 c hc
      unfold onC at h1
      simp only [List.mem_cons, List.not_mem_nil, or_false] at hz
      rcases hz with rfl | rfl <;> omega
  intro z hz
  unfold wrB at hz
  rcases List.mem_append.1 hz with h | h
  · exact hb z h
  · exact be4_byt (crc_range _).1 (crc_range _).2 z h
theorem VIn.sub {E : Ents} {e : TypeId} {g q n c : Nat} {xs : List Value} (h : VIn E e (some ⟨g, q, none⟩) n c xs) {lo hi : Nat} (h1 : lo ≤ hi) (h2 : hi ≤ n) (h3 : lo < c) : VIn E e (some ⟨g, q + lo, none⟩) (hi - lo) (c - lo) ((xs.take hi).drop lo) := by
  have h4 := h.part h1 h2
  unfold adv at h4
  rw [if_neg (by omega)] at h4
  rw [Option.map_some, Addr.add_lit, Nat.mul_one] at h4
  exact h4
set_option maxHeartbeats 16000000 in
theorem Read_any (x : MsP) (A : Option Addr) (n c : Nat) (w0 w : World) (m : Ents) (H : Hid (Hp w0 w m)) (V : Hid (VIn m 5 A n c (bv (wrB x)))) (FT : Hid x.fit) (hne : Hid (x.frm ≠ x.dst)) :
    Calls Try.prog 16 #[.slice A n c] w fun e w' => ∃ (B : Option Addr) (k c2 : Nat) (cur : List Value), e = .returned (.tuple #[.agg (x.v B k c2).toArray, .int .i64 0]) ∧ RowV 2 (.slice B k c2) k (flat CeP.cells x.cells) cur ∧ Hp w0 w' (rowE (.slice B k c2) 78 cur ++ m) := by
  obtain ⟨k, hk⟩ : ∃ k, x.cells.length = k := ⟨_, rfl⟩
  have hnl : 17 + 2 * k = n := by rw [← V.out.len, bv_len, wrB_len, hk]
  have hk9 : k ≤ 9 := by rw [← hk]; exact FT.out.cl
  have hnc := V.out.nc
  obtain ⟨gx, ox, _, rfl, _, _⟩ := V.out.at_ (by omega)
  have V1 : Hid (VIn m 5 (some ⟨gx, ox + 11, none⟩) 2 (c - 11) (bv (lenB k))) := Lib.hid (by
    have h := V.out.sub (lo := 11) (hi := 13) (by omega) (by omega) (by omega)
    rw [bv_part, wrB_num, hk] at h
    exact h)
  have V2 : Hid (VIn m 5 (some ⟨gx, ox + (13 + 2 * k), none⟩) (n - (13 + 2 * k)) (c - (13 + 2 * k)) (bv (be4 (crc (bodyB x))))) := Lib.hid (by
    have h := V.out.sub (lo := 13 + 2 * k) (hi := n) (by omega) (by omega) (by omega)
    rw [bv_part, List.take_of_length_le (by rw [wrB_len, hk]; omega), ← hk, wrB_sum, hk] at h
    exact h)
  have V3 : Hid (VIn m 5 (some ⟨gx, ox, none⟩) (13 + 2 * k) c (bv (bodyB x))) := Lib.hid (by
    have hcm := V.out.cm
    refine ⟨by rw [bv_len, bodyB_len, hk], by omega, hcm, fun hp => ?_⟩
    obtain ⟨g, o, cur, h1, h2, h3⟩ := V.out.at_ (by omega)
    refine ⟨g, o, cur, h1, h2, fun j u hu => h3 j u ?_⟩
    have hj := lt_of_at hu
    rw [bv_len, bodyB_len] at hj
    rw [← wrB_body] at hu
    unfold bv at hu ⊢
    rw [List.map_take, List.getElem?_take, if_pos hj] at hu
    exact hu)
  have V4 : Hid (VIn m 5 (some ⟨gx, ox + 3, none⟩) 4 (c - 3) (bv (be4 x.seq))) := Lib.hid (by
    have h := V.out.sub (lo := 3) (hi := 7) (by omega) (by omega) (by omega)
    rw [bv_part, wrB_seq] at h
    exact h)
  have V5 : Hid (VIn m 5 (some ⟨gx, ox + 7, none⟩) 4 (c - 7) (bv (be4 x.clock))) := Lib.hid (by
    have h := V.out.sub (lo := 7) (hi := 11) (by omega) (by omega) (by omega)
    rw [bv_part, wrB_clock] at h
    exact h)
  have CB : Hid (∀ (j : Nat) (b : Int), (wrB x)[j]? = some b → ∀ W, Hld m W → W.cell? ⟨gx, ox + j, none⟩ = some (.int .u8 b)) := Lib.hid fun j b hj W hW => by
    obtain ⟨g, o, e1, _, h⟩ := V.out.cells hW (by omega)
    cases e1
    exact h j _ (bv_at hj)
  have HK := Lib.hid hk
  obtain ⟨k2, hk2⟩ : ∃ k2 : Nat, 2 * k = k2 := ⟨_, rfl⟩
  obtain ⟨k13, hk13⟩ : ∃ k13 : Nat, 13 + 2 * k = k13 := ⟨_, rfl⟩
  rw [hk13] at V2 V3
  have e2 : 2 * (k : Int) = (k2 : Int) := by omega
  have e13 : 13 + (k2 : Int) = (k13 : Int) := by omega
  have e17 : 17 + (k2 : Int) = (n : Int) := by omega
  have w2 : IntKind.i64.wrap (2 * (k : Int)) = (k2 : Int) := by rw [IntWalk.i64_in _ (by omega)]; omega
  have u2 : IntKind.i64.wrap (k2 : Int) = (k2 : Int) := IntWalk.i64_in _ (by omega)
  have u13 : IntKind.i64.wrap (k13 : Int) = (k13 : Int) := IntWalk.i64_in _ (by omega)
  have w13 : IntKind.i64.wrap (13 + (k2 : Int)) = (k13 : Int) := by rw [IntWalk.i64_in _ (by omega)]; omega
  have h17 : 17 ≤ n := by omega
  have p0 : 0 < n := by omega
  have p1 : 1 < n := by omega
  have p2 : 2 < n := by omega
  have q1 : (1 : Int) < n := by omega
  have q2 : (2 : Int) < n := by omega
  have h13 : k13 ≤ n := by omega
  have h13c : k13 < c := by omega
  have HNL := Lib.hid hnl
  have HK2 := Lib.hid hk2
  have HK13 := Lib.hid hk13
  clear hk hnl hk2 hk13
  have hd1 : decide ((n : Int) < 17) = false := decide_eq_false (by omega)
  go_enter Try.func16, Try.ntmps16
  go_wp2_with (first
      | go_skip
      | ((with_reducible refine isAlloc ?_); refine alA H ?_ (hz := zMsg); clear H; intro b2 _ H))
  go_at_call 31
  refine (number_any (some ⟨gx, ox + 11, none⟩) 2 (c - 11) (lenB k) _ (V1.out.bv (H.out.hld fun z hz => .tail _ hz)) rfl (by omega) (lenB_byt (by omega))).mono ?_
  rintro _ _ ⟨rfl, rfl⟩
  rw [lenB_num]
  go_wp2_with (first
      | go_skip)
  refine wp_region_Y 12 [.c (.slice (some ⟨gx, ox, none⟩) n c), .c (.int .i64 k), .c (.int .i64 k2), .c (.int .i64 k13), .c (.slice (some ⟨gx, ox + k13, none⟩) (n - k13) (c - k13)), .y, .c (.slice (some ⟨gx, ox, none⟩) n c), .c (.int .i64 k), .c (.int .i64 k2), .c (.int .i64 k13), .c (.slice (some ⟨gx, ox, none⟩) k13 c), .y] ((b2, 39, [.int .i64 0, .int .i64 0, .int .i64 0, .int .i64 0, .int .u32 0, .slice none 0 0]) :: m) H (by (repeat (first | exact List.Sublist.refl _ | refine List.Sublist.cons_cons _ ?_ | refine List.Sublist.append_left ?_ _ | refine List.Sublist.trans ?_ (List.sublist_append_right _ _) | refine List.Sublist.cons _ ?_))) (by kernel_rfl) (by kernel_rfl) (by kernel_rfl) ?_
  simp only [List.take_succ_cons, List.take_zero, List.drop_succ_cons, List.drop_zero]
  refine wpY_c (by rfl) (by (first | exact wanted_none rfl | exact wanted_some rfl rfl)) (by intro W _; first | (go_simp; rfl) | (go_simp; done) | (trace_state; fail)) ?_
  (simp only [Act.put, List.setIfInBounds_toArray, List.set_cons_succ, List.set_cons_zero])
  refine wpY_c (by rfl) (by (first | exact wanted_none rfl | exact wanted_some rfl rfl)) (by intro W _; first | (go_simp; rfl) | (go_simp; done) | (trace_state; fail)) ?_
  (simp only [Act.put, List.setIfInBounds_toArray, List.set_cons_succ, List.set_cons_zero])
  refine wpY_c (by rfl) (by (first | exact wanted_none rfl | exact wanted_some rfl rfl)) (by intro W _; first | (go_simp; rfl) | (go_simp; done) | (trace_state; fail)) ?_
  (simp only [Act.put, List.setIfInBounds_toArray, List.set_cons_succ, List.set_cons_zero])
  refine wpY_c (by rfl) (by (first | exact wanted_none rfl | exact wanted_some rfl rfl)) (by intro W _; first | (go_simp; rfl) | (go_simp; done) | (trace_state; fail)) ?_
  (simp only [Act.put, List.setIfInBounds_toArray, List.set_cons_succ, List.set_cons_zero])
  refine wpY_slL2 (k13) (by rfl) (by omega) (by omega) utB szB (by rfl) (by rfl) (by rfl) (by (first | exact wanted_none rfl | exact wanted_some rfl rfl)) ?_
  (simp only [Act.put, List.setIfInBounds_toArray, List.set_cons_succ, List.set_cons_zero])
  refine wpY_y (by rfl) (by (first | exact wanted_none rfl | exact wanted_some rfl rfl)) (fun G F W HF hG => ?_)
  go_simp
  unfold upY
  have RB := number_any (some ⟨gx, ox + k13, none⟩) (n - k13) (c - k13) (be4 (crc (bodyB x))) W (V2.out.bv (HF.out.hld fun z hz => .tail _ (List.mem_append_left _ hz))) (by have h1 := HNL.out; have h2 := HK13.out; rw [be4_len] <;> omega) (by have h1 := HNL.out; have h2 := HK13.out; omega) (be4_byt (crc_range _).1 (crc_range _).2)
  rw [be4_num (crc_range _).1 (crc_range _).2] at RB
  refine Calls.mono RB ?_
  rintro _ _ ⟨rfl, rfl⟩
  refine ⟨_, rfl, hG _ _ _ HF.out (List.Sublist.refl _) ?_⟩
  clear HF hG RB
  (simp only [Act.put, List.setIfInBounds_toArray, List.set_cons_succ, List.set_cons_zero])
  refine wpY_c (by rfl) (by (first | exact wanted_none rfl | exact wanted_some rfl rfl)) (by intro W _; first | (go_simp; rfl) | (go_simp; done) | (trace_state; fail)) ?_
  (simp only [Act.put, List.setIfInBounds_toArray, List.set_cons_succ, List.set_cons_zero])
  refine wpY_c (by rfl) (by (first | exact wanted_none rfl | exact wanted_some rfl rfl)) (by intro W _; first | (go_simp; rfl) | (go_simp; done) | (trace_state; fail)) ?_
  (simp only [Act.put, List.setIfInBounds_toArray, List.set_cons_succ, List.set_cons_zero])
  refine wpY_c (by rfl) (by (first | exact wanted_none rfl | exact wanted_some rfl rfl)) (by intro W _; first | (go_simp; rfl) | (go_simp; done) | (trace_state; fail)) ?_
  (simp only [Act.put, List.setIfInBounds_toArray, List.set_cons_succ, List.set_cons_zero])
  refine wpY_c (by rfl) (by (first | exact wanted_none rfl | exact wanted_some rfl rfl)) (by intro W _; first | (go_simp; rfl) | (go_simp; done) | (trace_state; fail)) ?_
  (simp only [Act.put, List.setIfInBounds_toArray, List.set_cons_succ, List.set_cons_zero])
  refine wpY_slH2 (k13) (by rfl) (by omega) (by omega) utB szB (by rfl) (by rfl) (by rfl) (by (first | exact wanted_none rfl | exact wanted_some rfl rfl)) ?_
  (simp only [Act.put, List.setIfInBounds_toArray, List.set_cons_succ, List.set_cons_zero])
  refine wpY_y (by rfl) (by (first | exact wanted_none rfl | exact wanted_some rfl rfl)) (fun G F W HF hG => ?_)
  go_simp
  unfold upY
  refine Calls.mono (Sum_any (some ⟨gx, ox, none⟩) k13 c (bodyB x) W (V3.out.bv (HF.out.hld fun z hz => .tail _ (List.mem_append_left _ hz))) (by have h2 := HK13.out; rw [bodyB_len, HK.out]; omega) (by omega)) ?_
  rintro _ _ ⟨rfl, rfl⟩
  refine ⟨_, rfl, hG _ _ _ HF.out (List.Sublist.refl _) ?_⟩
  clear HF hG
  (simp only [Act.put, List.setIfInBounds_toArray, List.set_cons_succ, List.set_cons_zero])
  refine wpY_nil ?_
  clear H
  intro _ H
  go_wp2_with (first
      | go_skip)
  have ik : IntKind.i64.wrap x.kind = x.kind := by have h1 := FT.out.k0; have h2 := FT.out.k3; exact IntWalk.i64_in _ (by omega)
  have if_ : IntKind.i64.wrap x.frm = x.frm := by have h1 := FT.out.f0; have h2 := FT.out.f3; exact IntWalk.i64_in _ (by omega)
  have id_ : IntKind.i64.wrap x.dst = x.dst := by have h1 := FT.out.d0; have h2 := FT.out.d3; exact IntWalk.i64_in _ (by omega)
  have is_ : IntKind.i64.wrap x.seq = x.seq := by have h1 := FT.out.s0; have h2 := FT.out.s1; exact IntWalk.i64_in _ (by omega)
  refine wp_region_Y 21 [.c (.slice (some ⟨gx, ox, none⟩) n c), .c (.pointer (some ⟨gx, ox, none⟩)), .c (.int .u8 x.kind), .c (.int .i64 x.kind), .c (.slice (some ⟨gx, ox, none⟩) n c), .c (.pointer (some ⟨gx, ox + 1, none⟩)), .c (.int .u8 x.frm), .c (.int .i64 x.frm), .c (.slice (some ⟨gx, ox, none⟩) n c), .c (.pointer (some ⟨gx, ox + 2, none⟩)), .c (.int .u8 x.dst), .c (.int .i64 x.dst), .c (.slice (some ⟨gx, ox, none⟩) n c), .c (.slice (some ⟨gx, ox + 3, none⟩) 4 (c - 3)), .y, .c (.int .i64 x.seq), .c (.slice (some ⟨gx, ox, none⟩) n c), .c (.slice (some ⟨gx, ox + 7, none⟩) 4 (c - 7)), .y, .c (.agg #[.int .i64 x.kind, .int .i64 x.frm, .int .i64 x.dst, .int .i64 x.seq, .int .u32 x.clock, .slice none 0 0]), .a] ((b2, 39, [.int .i64 0, .int .i64 0, .int .i64 0, .int .i64 0, .int .u32 0, .slice none 0 0]) :: m) H (by (repeat (first | exact List.Sublist.refl _ | refine List.Sublist.cons_cons _ ?_ | refine List.Sublist.append_left ?_ _ | refine List.Sublist.trans ?_ (List.sublist_append_right _ _) | refine List.Sublist.cons _ ?_))) (by kernel_rfl) (by kernel_rfl) (by kernel_rfl) ?_
  simp only [List.take_succ_cons, List.take_zero, List.drop_succ_cons, List.drop_zero]
  refine wpY_c (by rfl) (by (first | exact wanted_none rfl | exact wanted_some rfl rfl)) (by intro W _; first | (go_simp; rfl) | (go_simp; done) | (trace_state; fail)) ?_
  (simp only [Act.put, List.setIfInBounds_toArray, List.set_cons_succ, List.set_cons_zero])
  refine wpY_c (by rfl) (by (first | exact wanted_none rfl | exact wanted_some rfl rfl)) (by intro W _; first | (go_simp; rfl) | (go_simp; done) | (trace_state; fail)) ?_
  (simp only [Act.put, List.setIfInBounds_toArray, List.set_cons_succ, List.set_cons_zero])
  refine wpY_loadX (by rfl) (by rfl) (by (first | exact wanted_none rfl | exact wanted_some rfl rfl)) kByt_ (by rfl) (by intro W HW; have h := CB.out 0 _ (wrB_0 x) W (HW.out.hld fun z hz => .tail _ hz); simpa using h) ?_
  (simp only [Act.put, List.setIfInBounds_toArray, List.set_cons_succ, List.set_cons_zero])
  refine wpY_c (by rfl) (by (first | exact wanted_none rfl | exact wanted_some rfl rfl)) (by intro W _; first | (go_simp; rfl) | (go_simp; done) | (trace_state; fail)) ?_
  (simp only [Act.put, List.setIfInBounds_toArray, List.set_cons_succ, List.set_cons_zero])
  refine wpY_c (by rfl) (by (first | exact wanted_none rfl | exact wanted_some rfl rfl)) (by intro W _; first | (go_simp; rfl) | (go_simp; done) | (trace_state; fail)) ?_
  (simp only [Act.put, List.setIfInBounds_toArray, List.set_cons_succ, List.set_cons_zero])
  refine wpY_c (by rfl) (by (first | exact wanted_none rfl | exact wanted_some rfl rfl)) (by intro W _; first | (go_simp; rfl) | (go_simp; done) | (trace_state; fail)) ?_
  (simp only [Act.put, List.setIfInBounds_toArray, List.set_cons_succ, List.set_cons_zero])
  refine wpY_loadX (by rfl) (by rfl) (by (first | exact wanted_none rfl | exact wanted_some rfl rfl)) kByt_ (by rfl) (by intro W HW; have h := CB.out 1 _ (wrB_1 x) W (HW.out.hld fun z hz => .tail _ hz); simpa using h) ?_
  (simp only [Act.put, List.setIfInBounds_toArray, List.set_cons_succ, List.set_cons_zero])
  refine wpY_c (by rfl) (by (first | exact wanted_none rfl | exact wanted_some rfl rfl)) (by intro W _; first | (go_simp; rfl) | (go_simp; done) | (trace_state; fail)) ?_
  (simp only [Act.put, List.setIfInBounds_toArray, List.set_cons_succ, List.set_cons_zero])
  refine wpY_c (by rfl) (by (first | exact wanted_none rfl | exact wanted_some rfl rfl)) (by intro W _; first | (go_simp; rfl) | (go_simp; done) | (trace_state; fail)) ?_
  (simp only [Act.put, List.setIfInBounds_toArray, List.set_cons_succ, List.set_cons_zero])
  refine wpY_c (by rfl) (by (first | exact wanted_none rfl | exact wanted_some rfl rfl)) (by intro W _; first | (go_simp; rfl) | (go_simp; done) | (trace_state; fail)) ?_
  (simp only [Act.put, List.setIfInBounds_toArray, List.set_cons_succ, List.set_cons_zero])
  refine wpY_loadX (by rfl) (by rfl) (by (first | exact wanted_none rfl | exact wanted_some rfl rfl)) kByt_ (by rfl) (by intro W HW; have h := CB.out 2 _ (wrB_2 x) W (HW.out.hld fun z hz => .tail _ hz); simpa using h) ?_
  (simp only [Act.put, List.setIfInBounds_toArray, List.set_cons_succ, List.set_cons_zero])
  refine wpY_c (by rfl) (by (first | exact wanted_none rfl | exact wanted_some rfl rfl)) (by intro W _; first | (go_simp; rfl) | (go_simp; done) | (trace_state; fail)) ?_
  (simp only [Act.put, List.setIfInBounds_toArray, List.set_cons_succ, List.set_cons_zero])
  refine wpY_c (by rfl) (by (first | exact wanted_none rfl | exact wanted_some rfl rfl)) (by intro W _; first | (go_simp; rfl) | (go_simp; done) | (trace_state; fail)) ?_
  (simp only [Act.put, List.setIfInBounds_toArray, List.set_cons_succ, List.set_cons_zero])
  refine wpY_slLH2 (3) (7) (by rfl) (by omega) (by omega) (by omega) utB szB (by rfl) (by rfl) (by rfl) (by rfl) (by (first | exact wanted_none rfl | exact wanted_some rfl rfl)) ?_
  (simp only [Act.put, List.setIfInBounds_toArray, List.set_cons_succ, List.set_cons_zero])
  refine wpY_y (by rfl) (by (first | exact wanted_none rfl | exact wanted_some rfl rfl)) (fun G F W HF hG => ?_)
  go_simp
  unfold upY
  have RB := number_any (some ⟨gx, ox + 3, none⟩) (4) (c - 3) (be4 (x.seq)) W (V4.out.bv (HF.out.hld fun z hz => .tail _ (List.mem_append_left _ hz))) (by have h1 := HNL.out; have h2 := HK13.out; rw [be4_len] <;> omega) (by have h1 := HNL.out; have h2 := HK13.out; omega) (be4_byt FT.out.s0 (by have := FT.out.s1; omega))
  rw [be4_num FT.out.s0 (by have := FT.out.s1; omega)] at RB
  refine Calls.mono RB ?_
  rintro _ _ ⟨rfl, rfl⟩
  refine ⟨_, rfl, hG _ _ _ HF.out (List.Sublist.refl _) ?_⟩
  clear HF hG RB
  (simp only [Act.put, List.setIfInBounds_toArray, List.set_cons_succ, List.set_cons_zero])
  refine wpY_c (by rfl) (by (first | exact wanted_none rfl | exact wanted_some rfl rfl)) (by intro W _; first | (go_simp; rfl) | (go_simp; done) | (trace_state; fail)) ?_
  (simp only [Act.put, List.setIfInBounds_toArray, List.set_cons_succ, List.set_cons_zero])
  refine wpY_c (by rfl) (by (first | exact wanted_none rfl | exact wanted_some rfl rfl)) (by intro W _; first | (go_simp; rfl) | (go_simp; done) | (trace_state; fail)) ?_
  (simp only [Act.put, List.setIfInBounds_toArray, List.set_cons_succ, List.set_cons_zero])
  refine wpY_slLH2 (7) (11) (by rfl) (by omega) (by omega) (by omega) utB szB (by rfl) (by rfl) (by rfl) (by rfl) (by (first | exact wanted_none rfl | exact wanted_some rfl rfl)) ?_
  (simp only [Act.put, List.setIfInBounds_toArray, List.set_cons_succ, List.set_cons_zero])
  refine wpY_y (by rfl) (by (first | exact wanted_none rfl | exact wanted_some rfl rfl)) (fun G F W HF hG => ?_)
  go_simp
  unfold upY
  have RB := number_any (some ⟨gx, ox + 7, none⟩) (4) (c - 7) (be4 (x.clock)) W (V5.out.bv (HF.out.hld fun z hz => .tail _ (List.mem_append_left _ hz))) (by have h1 := HNL.out; have h2 := HK13.out; rw [be4_len] <;> omega) (by have h1 := HNL.out; have h2 := HK13.out; omega) (be4_byt FT.out.c0 FT.out.c1)
  rw [be4_num FT.out.c0 FT.out.c1] at RB
  refine Calls.mono RB ?_
  rintro _ _ ⟨rfl, rfl⟩
  refine ⟨_, rfl, hG _ _ _ HF.out (List.Sublist.refl _) ?_⟩
  clear HF hG RB
  (simp only [Act.put, List.setIfInBounds_toArray, List.set_cons_succ, List.set_cons_zero])
  refine wpY_c (by rfl) (by (first | exact wanted_none rfl | exact wanted_some rfl rfl)) (by intro W _; first | (go_simp; rfl) | (go_simp; done) | (trace_state; fail)) ?_
  (simp only [Act.put, List.setIfInBounds_toArray, List.set_cons_succ, List.set_cons_zero])
  refine wpY_al (by rfl) (by rfl) (by rfl) zMsg (by (simp only [Value.cells]; rfl)) ?_
  intro b5
  (simp only [Act.put, List.setIfInBounds_toArray, List.set_cons_succ, List.set_cons_zero])
  refine wpY_nil ?_
  clear H
  intro _ H
  go_wp2_with (first
      | go_skip
      | ((with_reducible refine isStore ?_); refine stA H ?_ (hT := rMsg) (hu := by (repeat (first | apply Upd.head | apply Upd.tail | apply Upd.appA | assumption))); clear H; intro _ H))
  go_loopw [68] (fun i_ wr => ∃ (i : Nat) (v : Value) (cur : List Value), i_ = .int .i64 i ∧ i ≤ k ∧ Hid (RowV 2 v i (flat CeP.cells (x.cells.take i)) cur) ∧ Hid (Hp w0 wr ((b5, 39, [.int .i64 x.kind, .int .i64 x.frm, .int .i64 x.dst, .int .i64 x.seq, .int .u32 x.clock, v]) :: (b2, 39, [.int .i64 0, .int .i64 0, .int .i64 0, .int .i64 0, .int .u32 0, .slice none 0 0]) :: (rowE v 78 cur ++ m)))) (fun i_ _ => k - (intOf i_).toNat)
  case atStart => exact ⟨0, .slice none 0 0, [], rfl, by omega, Lib.hid (RowV.nil 2), H⟩
  case round =>
    clear H
    obtain ⟨i, v, cur, rfl, hi, R, H⟩ := hrel
    obtain ⟨Bv, cv, rfl, _⟩ := R.out.shape
    by_cases hlt : i < k
    · obtain ⟨c1, hc1⟩ : ∃ c1, x.cells[i]? = some c1 := ⟨_, List.getElem?_eq_getElem (by rw [HK.out]; exact hlt)⟩
      obtain ⟨hb1, hb2⟩ := wrB_cell hc1
      have HON := FT.out.cs.1 c1 (List.mem_of_getElem? hc1)
      unfold onC at HON
      obtain ⟨i2, hi2⟩ : ∃ i2 : Nat, 2 * i = i2 := ⟨_, rfl⟩
      obtain ⟨i13, hi13⟩ : ∃ i13 : Nat, 13 + 2 * i = i13 := ⟨_, rfl⟩
      obtain ⟨i14, hi14⟩ : ∃ i14 : Nat, 14 + 2 * i = i14 := ⟨_, rfl⟩
      rw [hi13] at hb1
      rw [hi14] at hb2
      have f2 : 2 * (i : Int) = (i2 : Int) := by omega
      have f13 : 13 + (i2 : Int) = (i13 : Int) := by omega
      have f14 : 14 + (i2 : Int) = (i14 : Int) := by omega
      have v2 : IntKind.i64.wrap (2 * (i : Int)) = (i2 : Int) := by rw [IntWalk.i64_in _ (by omega)]; omega
      have y2 : IntKind.i64.wrap (i2 : Int) = (i2 : Int) := IntWalk.i64_in _ (by omega)
      have y13 : IntKind.i64.wrap (i13 : Int) = (i13 : Int) := IntWalk.i64_in _ (by omega)
      have y14 : IntKind.i64.wrap (i14 : Int) = (i14 : Int) := IntWalk.i64_in _ (by omega)
      have yx : IntKind.i64.wrap c1.x = c1.x := IntWalk.i64_in _ (by omega)
      have yy : IntKind.i64.wrap c1.y = c1.y := IntWalk.i64_in _ (by omega)
      have v13 : IntKind.i64.wrap (13 + (i2 : Int)) = (i13 : Int) := by rw [IntWalk.i64_in _ (by omega)]; omega
      have v14 : IntKind.i64.wrap (14 + (i2 : Int)) = (i14 : Int) := by rw [IntWalk.i64_in _ (by omega)]; omega
      have h13n : i13 < n := by have := HNL.out; omega
      have h14n : i14 < n := by have := HNL.out; omega
      have hx64 : IntKind.i64.wrap (c1.x + 64) = c1.x + 64 := IntWalk.i64_in _ (by omega)
      have hy64 : IntKind.i64.wrap (c1.y + 64) = c1.y + 64 := IntWalk.i64_in _ (by omega)
      have hx0 : IntKind.i64.wrap (c1.x + 64 - 64) = c1.x := by rw [Int.add_sub_cancel]; exact IntWalk.i64_in _ (by omega)
      have hy0 : IntKind.i64.wrap (c1.y + 64 - 64) = c1.y := by rw [Int.add_sub_cancel]; exact IntWalk.i64_in _ (by omega)
      have CX_ := Lib.hid (CB.out i13 _ hb1)
      have CY_ := Lib.hid (CB.out i14 _ hb2)
      have HC1 := Lib.hid hc1
      clear hb1 hb2 hc1 hi2 hi13 hi14
      go_wp2_with (first
          | go_skip)
      refine wp_region_Y 22 [.c (.pointer (some ⟨b5, 5, none⟩)), .c (.slice Bv i cv), .c (.slice (some ⟨gx, ox, none⟩) n c), .c (.int .i64 i), .c (.int .i64 i2), .c (.int .i64 i13), .c (.pointer (some ⟨gx, ox + i13, none⟩)), .c (.int .u8 (c1.x + 64)), .c (.int .i64 (c1.x + 64)), .c (.int .i64 c1.x), .c (.slice (some ⟨gx, ox, none⟩) n c), .c (.int .i64 i), .c (.int .i64 i2), .c (.int .i64 i14), .c (.pointer (some ⟨gx, ox + i14, none⟩)), .c (.int .u8 (c1.y + 64)), .c (.int .i64 (c1.y + 64)), .c (.int .i64 c1.y), .c (.agg #[.int .i64 c1.x, .int .i64 c1.y]), .a, .y, .c (.pointer (some ⟨b5, 5, none⟩))] ((b5, 39, [.int .i64 x.kind, .int .i64 x.frm, .int .i64 x.dst, .int .i64 x.seq, .int .u32 x.clock, .slice Bv i cv]) :: (b2, 39, [.int .i64 0, .int .i64 0, .int .i64 0, .int .i64 0, .int .u32 0, .slice none 0 0]) :: m) H (by (repeat (first | exact List.Sublist.refl _ | refine List.Sublist.cons_cons _ ?_ | refine List.Sublist.append_left ?_ _ | refine List.Sublist.trans ?_ (List.sublist_append_right _ _) | refine List.Sublist.cons _ ?_))) (by kernel_rfl) (by kernel_rfl) (by kernel_rfl) ?_
      simp only [List.take_succ_cons, List.take_zero, List.drop_succ_cons, List.drop_zero]
      refine wpY_c (by rfl) (by (first | exact wanted_none rfl | exact wanted_some rfl rfl)) (by intro W _; first | (go_simp; rfl) | (go_simp; done) | (trace_state; fail)) ?_
      (simp only [Act.put, List.setIfInBounds_toArray, List.set_cons_succ, List.set_cons_zero])
      refine wpY_load1 (by rfl) (by rfl) (by (first | exact wanted_none rfl | exact wanted_some rfl rfl)) kCls (by rfl) (by (repeat (first | exact List.Mem.head _ | refine List.Mem.tail _ ?_ | refine List.mem_append_right _ ?_ | assumption))) (by rfl) ?_
      (simp only [Act.put, List.setIfInBounds_toArray, List.set_cons_succ, List.set_cons_zero])
      refine wpY_c (by rfl) (by (first | exact wanted_none rfl | exact wanted_some rfl rfl)) (by intro W _; first | (go_simp; rfl) | (go_simp; done) | (trace_state; fail)) ?_
      (simp only [Act.put, List.setIfInBounds_toArray, List.set_cons_succ, List.set_cons_zero])
      refine wpY_c (by rfl) (by (first | exact wanted_none rfl | exact wanted_some rfl rfl)) (by intro W _; first | (go_simp; rfl) | (go_simp; done) | (trace_state; fail)) ?_
      (simp only [Act.put, List.setIfInBounds_toArray, List.set_cons_succ, List.set_cons_zero])
      refine wpY_c (by rfl) (by (first | exact wanted_none rfl | exact wanted_some rfl rfl)) (by intro W _; first | (go_simp; rfl) | (go_simp; done) | (trace_state; fail)) ?_
      (simp only [Act.put, List.setIfInBounds_toArray, List.set_cons_succ, List.set_cons_zero])
      refine wpY_c (by rfl) (by (first | exact wanted_none rfl | exact wanted_some rfl rfl)) (by intro W _; first | (go_simp; rfl) | (go_simp; done) | (trace_state; fail)) ?_
      (simp only [Act.put, List.setIfInBounds_toArray, List.set_cons_succ, List.set_cons_zero])
      refine wpY_c (by rfl) (by (first | exact wanted_none rfl | exact wanted_some rfl rfl)) (by intro W _; first | (go_simp; rfl) | (go_simp; done) | (trace_state; fail)) ?_
      (simp only [Act.put, List.setIfInBounds_toArray, List.set_cons_succ, List.set_cons_zero])
      refine wpY_loadX (by rfl) (by rfl) (by (first | exact wanted_none rfl | exact wanted_some rfl rfl)) kByt_ (by rfl) (by intro W HW; exact CX_.out W (HW.out.hld fun z hz => .tail _ (.tail _ hz))) ?_
      (simp only [Act.put, List.setIfInBounds_toArray, List.set_cons_succ, List.set_cons_zero])
      refine wpY_c (by rfl) (by (first | exact wanted_none rfl | exact wanted_some rfl rfl)) (by intro W _; first | (go_simp; rfl) | (go_simp; done) | (trace_state; fail)) ?_
      (simp only [Act.put, List.setIfInBounds_toArray, List.set_cons_succ, List.set_cons_zero])
      refine wpY_c (by rfl) (by (first | exact wanted_none rfl | exact wanted_some rfl rfl)) (by intro W _; first | (go_simp; rfl) | (go_simp; done) | (trace_state; fail)) ?_
      (simp only [Act.put, List.setIfInBounds_toArray, List.set_cons_succ, List.set_cons_zero])
      refine wpY_c (by rfl) (by (first | exact wanted_none rfl | exact wanted_some rfl rfl)) (by intro W _; first | (go_simp; rfl) | (go_simp; done) | (trace_state; fail)) ?_
      (simp only [Act.put, List.setIfInBounds_toArray, List.set_cons_succ, List.set_cons_zero])
      refine wpY_c (by rfl) (by (first | exact wanted_none rfl | exact wanted_some rfl rfl)) (by intro W _; first | (go_simp; rfl) | (go_simp; done) | (trace_state; fail)) ?_
      (simp only [Act.put, List.setIfInBounds_toArray, List.set_cons_succ, List.set_cons_zero])
      refine wpY_c (by rfl) (by (first | exact wanted_none rfl | exact wanted_some rfl rfl)) (by intro W _; first | (go_simp; rfl) | (go_simp; done) | (trace_state; fail)) ?_
      (simp only [Act.put, List.setIfInBounds_toArray, List.set_cons_succ, List.set_cons_zero])
      refine wpY_c (by rfl) (by (first | exact wanted_none rfl | exact wanted_some rfl rfl)) (by intro W _; first | (go_simp; rfl) | (go_simp; done) | (trace_state; fail)) ?_
      (simp only [Act.put, List.setIfInBounds_toArray, List.set_cons_succ, List.set_cons_zero])
      refine wpY_c (by rfl) (by (first | exact wanted_none rfl | exact wanted_some rfl rfl)) (by intro W _; first | (go_simp; rfl) | (go_simp; done) | (trace_state; fail)) ?_
      (simp only [Act.put, List.setIfInBounds_toArray, List.set_cons_succ, List.set_cons_zero])
      refine wpY_loadX (by rfl) (by rfl) (by (first | exact wanted_none rfl | exact wanted_some rfl rfl)) kByt_ (by rfl) (by intro W HW; exact CY_.out W (HW.out.hld fun z hz => .tail _ (.tail _ hz))) ?_
      (simp only [Act.put, List.setIfInBounds_toArray, List.set_cons_succ, List.set_cons_zero])
      refine wpY_c (by rfl) (by (first | exact wanted_none rfl | exact wanted_some rfl rfl)) (by intro W _; first | (go_simp; rfl) | (go_simp; done) | (trace_state; fail)) ?_
      (simp only [Act.put, List.setIfInBounds_toArray, List.set_cons_succ, List.set_cons_zero])
      refine wpY_c (by rfl) (by (first | exact wanted_none rfl | exact wanted_some rfl rfl)) (by intro W _; first | (go_simp; rfl) | (go_simp; done) | (trace_state; fail)) ?_
      (simp only [Act.put, List.setIfInBounds_toArray, List.set_cons_succ, List.set_cons_zero])
      refine wpY_c (by rfl) (by (first | exact wanted_none rfl | exact wanted_some rfl rfl)) (by intro W _; first | (go_simp; rfl) | (go_simp; done) | (trace_state; fail)) ?_
      (simp only [Act.put, List.setIfInBounds_toArray, List.set_cons_succ, List.set_cons_zero])
      refine wpY_V 78 ([.int .i64 c1.x, .int .i64 c1.y]) 1 (by rfl) (by rfl) (by intro W; kernel_rfl) ?_
      intro gz
      (simp only [Act.put, List.setIfInBounds_toArray, List.set_cons_succ, List.set_cons_zero])
      refine wpY_app [(gz, 78, [.int .i64 c1.x, .int .i64 c1.y]), (b5, 39, [.int .i64 x.kind, .int .i64 x.frm, .int .i64 x.dst, .int .i64 x.seq, .int .u32 x.clock, .slice Bv i cv]), (b2, 39, [.int .i64 0, .int .i64 0, .int .i64 0, .int .i64 0, .int .u32 0, .slice none 0 0])] m (by rfl) (by (first | exact wanted_none rfl | exact wanted_some rfl rfl)) R iCel (by decide) Try.underlying37 (by rfl) (by rfl) (by rfl) (.head _) (by rfl) (by rfl) (by omega) (by unfold maxLen; omega) (by omega) (by rfl) (by intro z hz; simp only [List.cons_append, List.nil_append, List.mem_cons] at hz ⊢; rcases hz with h | h | h <;> simp [h]) (fun v3 cur3 R3 => ?_)
      (simp only [Act.put, List.setIfInBounds_toArray, List.set_cons_succ, List.set_cons_zero])
      refine wpY_c (by rfl) (by (first | exact wanted_none rfl | exact wanted_some rfl rfl)) (by intro W _; first | (go_simp; rfl) | (go_simp; done) | (trace_state; fail)) ?_
      (simp only [Act.put, List.setIfInBounds_toArray, List.set_cons_succ, List.set_cons_zero])
      refine wpY_nil ?_
      clear H
      intro _ H
      simp only [List.cons_append, List.nil_append] at H
      obtain ⟨B3, c3, rfl, _⟩ := R3.out.shape
      go_wp2_with (first
          | go_skip
          | ((with_reducible refine isStore ?_); refine st1A (v := .slice B3 (i + 1) c3) H ?_ (hT := sCls) (hu := by (repeat (first | apply Upd.head | apply Upd.tail | apply Upd.appA | assumption))); clear H; intro _ H))
      have R' : Hid (RowV 2 (.slice B3 (i + 1) c3) (i + 1) (flat CeP.cells (x.cells.take (i + 1))) cur3) := Lib.hid (by
        rw [flat_snoc HC1.out]
        exact R3.out)
      go_roundw
      case rel => exact ⟨i + 1, _, cur3, by go_num, by omega, R', Lib.hid H.out.drop⟩
      case measure => simp [intOf]; omega
    · obtain rfl : i = k := by omega
      rw [List.take_of_length_le (by rw [HK.out]; omega)] at R
      go_wp2_with (first
          | go_skip
          | ((with_reducible refine isLoad ?_); refine ldA H ?_ (hT := rMsg) (hm := by (repeat (first | exact List.Mem.head _ | refine List.Mem.tail _ ?_ | refine List.mem_append_right _ ?_ | assumption))))
          | ((with_reducible refine isStore ?_); refine stA H ?_ (hT := rMsg) (hu := by (repeat (first | apply Upd.head | apply Upd.tail | apply Upd.appA | assumption))); clear H; intro _ H))
      go_at_call 22
      refine Calls.mono (mCheck_any x _ Bv i cv w0 _ _ H (Lib.hid ⟨cur, R.out, fun x hx => hx⟩) (Lib.hid fun z hz => .tail _ (.tail _ (List.mem_append_left _ hz))) FT hne) ?_
      rintro _ _ ⟨rfl, h2⟩
      replace H := Lib.hid h2
      clear h2
      go_wp2_with (first
          | go_skip
          | ((with_reducible refine isLoad ?_); refine ldA H ?_ (hT := rMsg) (hm := by (repeat (first | exact List.Mem.head _ | refine List.Mem.tail _ ?_ | refine List.mem_append_right _ ?_ | assumption))))
          | ((with_reducible refine isStore ?_); refine stA H ?_ (hT := rMsg) (hu := by (repeat (first | apply Upd.head | apply Upd.tail | apply Upd.appA | assumption))); clear H; intro _ H))
      exact bodyPost_ret (results_Hv H Try.results16 (by exact rMsg) rfl (by (repeat (first | exact List.Mem.head _ | refine List.Mem.tail _ ?_ | refine List.mem_append_right _ ?_ | assumption))) (by rfl) (by rfl)) rfl ⟨Bv, i, cv, cur, rfl, R.out, H.out.drop.drop⟩
end Go.Proofs.Ythepafendopfhaa

namespace Go.Proofs.Ythepafendopfhaa
open Go.RowKit
set_option linter.unusedVariables false
set_option maxRecDepth 100000

theorem eqC_run (x y : CeP) (w : World) : Sem.run Try.prog (binOp .eql 78 (.agg #[.int .i64 x.x, .int .i64 x.y]) (.agg #[.int .i64 y.x, .int .i64 y.y])) w = .ok (.bool (decide (x = y))) w := by
  have u3 := Try.underlying3
  have a3 := Try.isAgg3
  have z3 := Try.sizeOf3
  have hS : Try.prog.underlying 78 = some (.struct (Try.prog.fieldsOf 78)) := by kernel_rfl
  have hp : Try.prog.stoodInHeld 78 = false := by kernel_rfl
  rw [run_eql_struct, show (10000 : Nat) = 9999 + 1 from rfl, run_equalIn_agg w 9999 78 _ _ hS hp]
  simp only [Program.fieldsOf, Try.underlying78]
  go_simp
  obtain ⟨x1, x2⟩ := x
  obtain ⟨y1, y2⟩ := y
  by_cases h1 : x1 = y1 <;> by_cases h2 : x2 = y2 <;> simp [h1, h2]
instance : Inhabited CeP := ⟨⟨0, 0⟩⟩
theorem cells_at {cs : List CeP} {w : World} {g o : Nat} (h : ∀ (j : Nat) (c : CeP), cs[j]? = some c → w.rangeAt g (o + j * 2) c.cells) : ∀ j, j < cs.length → ∀ i v, (CeP.cells cs[j]!)[i]? = some v → w.cell? ⟨g, o + j * 2 + i, none⟩ = some v := fun j hj i v hv => h j _ (by simp [hj]) i v hv
theorem eqlC : EqlAt Try.prog 78 (fun x : CeP => .agg x.cells.toArray) (fun x y => decide (x = y)) := ⟨fun x y w => eqC_run x y w, GuardAt.agg _ (by kernel_rfl)⟩
theorem neqC : NeqAt Try.prog 78 (fun x : CeP => .agg x.cells.toArray) (fun x y => decide (x = y)) := ⟨fun x y w => by
  have h := eqC_run x y w
  unfold binOp at h ⊢
  simp only [Sem.run_bind, Sem.run_pure] at h ⊢
  have e : Sem.run Try.prog (Op.equal 78 (.agg x.cells.toArray) (.agg y.cells.toArray)) w = Sem.run Try.prog (Op.equal 78 (.agg #[.int .i64 x.x, .int .i64 x.y]) (.agg #[.int .i64 y.x, .int .i64 y.y])) w := rfl
  rw [e]
  cases hr : Sem.run Try.prog (Op.equal 78 (.agg #[.int .i64 x.x, .int .i64 x.y]) (.agg #[.int .i64 y.x, .int .i64 y.y])) w with
  | ok b w' =>
    rw [hr] at h
    simp only [Result.andThen_ok, Result.ok.injEq, Value.bool.injEq] at h ⊢
    exact ⟨by rw [h.1], h.2⟩
  | _ => rw [hr] at h; simp [Result.andThen] at h, GuardAt.agg _ (by kernel_rfl)⟩
theorem allEq_C : ∀ (xs : List CeP), Lib.allEq (fun x y : CeP => decide (x = y)) xs xs = true
  | [] => by simp [Lib.allEq]
  | x :: xs => by simp [Lib.allEq, allEq_C xs]
theorem RowV.someI {size n c : Nat} {A : Option Addr} {xs cur : List Value} (h : RowV size (.slice A n c) n xs cur) (hx : xs ≠ []) : ∃ g c', (.slice A n c : Value) = .slice (some ⟨g, 0, none⟩) n c' := by
  rcases h.or_ with ⟨e, rfl⟩ | ⟨g, cap, e, _⟩
  · exact absurd (List.eq_nil_of_length_eq_zero (by rw [h.len]; simp)) hx
  · exact ⟨g, cap, e⟩
theorem RowIn.cellsC {E : Ents} {g n c : Nat} {cs : List CeP} (h : RowIn E 78 2 (.slice (some ⟨g, 0, none⟩) n c) n (flat CeP.cells cs)) {w : World} (hw : Hld E w) : ∀ j, j < cs.length → ∀ i v, (CeP.cells cs[j]!)[i]? = some v → w.cell? ⟨g, 0 + j * 2 + i, none⟩ = some v := by
  refine cells_at fun j c' hj => ?_
  obtain ⟨g', c2, e1, h2⟩ := h.at_ CeP.len hj (by decide)
  cases e1
  rw [Nat.zero_add]
  exact h2 w hw
set_option maxHeartbeats 4000000 in
theorem eqCs_any (E1 E2 : Ents) (A B : Option Addr) (n c d : Nat) (cs : List CeP) (w0 w : World) (m : Ents) (H : Hid (Hp w0 w m)) (RX : Hid (RowIn E1 78 2 (.slice A n c) n (flat CeP.cells cs))) (RY : Hid (RowIn E2 78 2 (.slice B n d) n (flat CeP.cells cs))) (h1 : ∀ x ∈ E1, x ∈ m) (h2 : ∀ x ∈ E2, x ∈ m) (hn : n ≤ 1000) :
    Calls Try.prog 32 #[.slice A n c, .slice B n d] w fun e w' => e = .returned (.bool true) ∧ Hp w0 w' m := by
  have hcl := RX.out.len CeP.len (by decide)
  rcases Nat.eq_zero_or_pos n with h0 | h0
  · subst h0
    clear hcl h1 h2
    go_enter Try.func32, Try.ntmps32
    go_wp2_with (first | go_skip)
    go_loopw [13] (fun i_ wr => i_ = .int .i64 0 ∧ Hid (Hp w0 wr m)) (fun _ _ => 0)
    case atStart => exact ⟨rfl, H⟩
    case round =>
      clear H
      obtain ⟨rfl, H⟩ := hrel
      go_wp2_with (first | go_skip)
      go_ret
      exact ⟨rfl, H.out⟩
  · obtain ⟨cur1, R1, hR1⟩ := RX.out
    obtain ⟨g1, c1, e1⟩ := R1.someI (by intro e; have := R1.len; rw [e] at this; simp at this; omega)
    cases e1
    obtain ⟨cur2, R2, hR2⟩ := RY.out
    obtain ⟨g2, c2, e2⟩ := R2.someI (by intro e; have := R2.len; rw [e] at this; simp at this; omega)
    cases e2
    refine (Try.slices_Equal 2 Try.isAgg78 Try.sizeOf78 CeP.cells CeP.len _ neqC g1 0 n c g2 0 n d cs cs w (by omega) (by omega) (by omega) (by omega) (RX.out.cellsC (H.out.hld h1)) (RY.out.cellsC (H.out.hld h2))).mono ?_
    rintro _ _ ⟨rfl, q, rfl⟩
    refine ⟨ret_bool (allEq_C _), H.out.go (below_drewN (Below.refl _ _) q)⟩
set_option maxHeartbeats 4000000 in
theorem idxC_none (A : Option Addr) (c : Nat) (x : CeP) (w0 w : World) (m : Ents) (H : Hid (Hp w0 w m)) :
    Calls Try.prog 46 #[.slice A 0 c, .agg #[.int .i64 x.x, .int .i64 x.y]] w fun e w' => e = .returned (.int .i64 (-1)) ∧ Hp w0 w' m := by
  go_enter Try.func46, Try.ntmps46
  go_wp2_with (first | go_skip | ((with_reducible refine isBox ?_); refine bxA H ?_; clear H; intro b1 _ H))
  go_loopw [8] (fun i_ wr => i_ = .int .i64 0 ∧ Hid (Hp w0 wr ((b1, 78, [.int .i64 x.x, .int .i64 x.y]) :: m))) (fun _ _ => 0)
  case atStart => exact ⟨rfl, H⟩
  case round =>
    clear H
    obtain ⟨rfl, H⟩ := hrel
    go_wp2_with (first | go_skip)
    go_ret
    exact ⟨rfl, H.out.drop⟩
set_option maxHeartbeats 4000000 in
theorem contC_any (E : Ents) (A : Option Addr) (n c : Nat) (cs : List CeP) (x : CeP) (w0 w : World) (m : Ents) (H : Hid (Hp w0 w m)) (RX : Hid (RowIn E 78 2 (.slice A n c) n (flat CeP.cells cs))) (hE : ∀ x ∈ E, x ∈ m) (hn : n ≤ 1000) :
    Calls Try.prog 38 #[.slice A n c, .agg x.cells.toArray] w fun e w' => e = .returned (.bool (decide (x ∈ cs))) ∧ Hp w0 w' m := by
  have hcl := RX.out.len CeP.len (by decide)
  rcases Nat.eq_zero_or_pos n with h0 | h0
  · subst h0
    have hcs : cs = [] := List.eq_nil_of_length_eq_zero hcl
    subst hcs
    clear hcl hE RX
    show Calls Try.prog 38 #[.slice A 0 c, .agg #[.int .i64 x.x, .int .i64 x.y]] w _
    go_enter Try.func38, Try.ntmps38
    go_wp2_with (first | go_skip | ((with_reducible refine isBox ?_); refine bxA H ?_; clear H; intro b1 _ H) | ((with_reducible refine isLoad ?_); refine ldA H ?_ (hT := rCel)))
    go_at_call 46
    refine Calls.mono (idxC_none A c x w0 _ _ H) ?_
    rintro _ _ ⟨rfl, h2⟩
    replace H := Lib.hid h2
    clear h2
    go_wp2_with (first | go_skip)
    go_ret
    exact ⟨ret_bool (by simp), H.out.drop⟩
  · obtain ⟨cur1, R1, hR1⟩ := RX.out
    obtain ⟨g1, c1, e1⟩ := R1.someI (by intro e; have := R1.len; rw [e] at this; simp at this; omega)
    cases e1
    refine (Try.slices_Contains 2 Try.isAgg78 Try.sizeOf78 CeP.cells CeP.len _ eqlC g1 0 n c cs x w (by omega) (by omega) (RX.out.cellsC (H.out.hld hE))).mono ?_
    rintro _ _ ⟨rfl, hb⟩
    refine ⟨ret_bool ?_, H.out.go hb⟩
    rw [List.take_of_length_le (by omega)]
    by_cases hx : x ∈ cs
    · rw [decide_eq_true hx, List.any_eq_true]
      exact ⟨x, hx, by simp⟩
    · rw [decide_eq_false hx, List.any_eq_false]
      intro y hy h
      have := of_decide_eq_true h
      exact hx (this ▸ hy)
end Go.Proofs.Ythepafendopfhaa

namespace Go.Proofs.Ythepafendopfhaa
open Go.RowKit Go.Sort
set_option linter.unusedVariables false
set_option maxRecDepth 100000

theorem putCells_list {α : Type} [Inhabited α] (enc : α → Value) (zs : List α) (cur : List Value) (h : zs.length ≤ cur.length) : Go.Sort.putCells enc 0 zs.toArray cur.toArray = (zs.map enc ++ cur.drop zs.length).toArray := by
  unfold Go.Sort.putCells
  apply Array.ext_getElem?
  intro k
  rw [Array.getElem?_mapIdx, List.getElem?_toArray, List.getElem?_toArray, List.getElem?_append]
  simp only [List.length_map, List.size_toArray, Nat.zero_le, Nat.zero_add, true_and, Nat.sub_zero]
  by_cases hk : k < zs.length
  · rw [if_pos hk, List.getElem?_map, List.getElem?_eq_getElem hk, List.getElem?_eq_getElem (by omega)]
    simp [hk]
  · rw [if_neg hk, List.getElem?_drop, show zs.length + (k - zs.length) = k by omega]
    cases cur[k]? <;> simp [hk]
theorem putRow_Hp {α : Type} [Inhabited α] (enc : α → Value) {w0 w : World} {X T : Ents} {g : Nat} {e : TypeId} {cur : List Value} (h : Hp w0 w (X ++ ((g, e, cur) :: T))) (zs : List α) (hl : zs.length ≤ cur.length) (q : Nat) (os : Array Obj) :
    Hp w0 (Go.Sort.grow (Go.Sort.putRow enc (Go.Sort.ahead w q) g 0 zs.toArray) os) (X ++ ((g, e, zs.map enc ++ cur.drop zs.length) :: T)) := by
  have hb := (h.blk (g, e, cur) (by simp)).2
  have hsz : g < w.heap.size := hb.lt
  have hheap : ∀ k, k < w.heap.size → (Go.Sort.grow (Go.Sort.putRow enc (Go.Sort.ahead w q) g 0 zs.toArray) os).heap[k]? = (w.heap.modify g (Go.Sort.onCells (Go.Sort.putCells enc 0 zs.toArray)))[k]? := fun k hk => by
    show ((w.heap.modify g (Go.Sort.onCells (Go.Sort.putCells enc 0 zs.toArray))) ++ os)[k]? = _
    rw [Array.getElem?_append_left (by simpa using hk)]
  refine h.stored (Upd.mid X) ⟨⟨rfl, rfl, rfl, by simp [Go.Sort.ahead], fun k hk => absurd hk (by omega)⟩, fun k hk hne => ?_⟩ ?_
  · rw [hheap k hk, Array.getElem?_modify, if_neg (Ne.symm hne)]
  · unfold Blk
    rw [hheap g hsz, Array.getElem?_modify, if_pos rfl]
    have : w.heap[g]? = some (.cells cur.toArray e (0, 0)) := hb
    rw [this]
    show some (Obj.cells (Go.Sort.putCells enc 0 zs.toArray cur.toArray) e (0, 0)) = _
    rw [putCells_list enc zs cur hl]
section
variable {α : Type} [Inhabited α] {enc : α → List Value} {k : Nat}
theorem putRowK_Hp (hk : ∀ x, (enc x).length = k) {w0 w : World} {X T : Ents} {g : Nat} {e : TypeId} {cur : List Value} (h : Hp w0 w (X ++ ((g, e, cur) :: T))) (ys : List α) (hl : ys.length * k ≤ cur.length) (q : Nat) (os : Array Obj) :
    Hp w0 (sortWorldK enc k w g 0 q ys.toArray os) (X ++ ((g, e, flat enc ys ++ cur.drop (ys.length * k)) :: T)) := by
  have h1 := putRow_Hp (id : Value → Value) h (flat enc ys) (by rw [flat_len hk]; exact hl) q os
  rw [List.map_id, flat_len hk] at h1
  unfold sortWorldK putRowK
  rw [flatK_flat hk]
  exact h1
theorem holdsK_row (hk : ∀ x, (enc x).length = k) {w : World} {g c n : Nat} {e : TypeId} {xs : List α} {cur : List Value} (R : RowV k (.slice (some ⟨g, 0, none⟩) n c) n (flat enc xs) cur) (hb : Blk w g e cur.toArray) : HoldsK enc k w g 0 xs.toArray := by
  unfold HoldsK
  rw [flatK_flat hk]
  rcases R.or_ with ⟨h1, _⟩ | ⟨g', cap, h1, h2, h3, h4, h5⟩
  · cases h1
  · cases h1
    intro t ht
    have ht' : t < (flat enc xs).length := by simpa using ht
    obtain ⟨u, hu⟩ := some_at ht'
    have e1 : (flat enc xs).toArray[t]! = u := by simp [getElem!_def, hu]
    rw [e1]
    have hc : w.cell? ⟨g, 0 + t, none⟩ = some u := by
      rw [Nat.zero_add, hb.cell]
      rw [← h5, List.getElem?_take] at hu
      split at hu
      · simpa using hu
      · cases hu
    exact ⟨hc, hb.frozen _⟩
omit [Inhabited α] in
theorem RowV.sorted (hk : ∀ x, (enc x).length = k) {g c n : Nat} {xs ys : List α} {cur : List Value} (R : RowV k (.slice (some ⟨g, 0, none⟩) n c) n (flat enc xs) cur) (hy : ys.length = n) : RowV k (.slice (some ⟨g, 0, none⟩) n c) n (flat enc ys) (flat enc ys ++ cur.drop (ys.length * k)) ∧ ys.length * k ≤ cur.length := by
  rcases R.or_ with ⟨h1, _⟩ | ⟨g', cap, h1, h2, h3, h4, h5⟩
  · cases h1
  · cases h1
    have hle : ys.length * k ≤ cur.length := by rw [h4, hy]; exact Nat.mul_le_mul_right k h2
    refine ⟨⟨by rw [flat_len hk, hy], .inr ⟨g, c, rfl, h2, h3, ?_, ?_⟩⟩, hle⟩
    · rw [List.length_append, flat_len hk, List.length_drop]
      omega
    · rw [← hy, ← flat_len hk]
      exact List.take_left
end
end Go.Proofs.Ythepafendopfhaa

namespace Go.Proofs.Ythepafendopfhaa
open Go.RowKit Go.Sort
set_option linter.unusedVariables false
set_option maxRecDepth 100000

/-- A cell as gantmake draws it. -/
abbrev C8 := Fin 8 × Fin 8
def ce8 (c : C8) : CeP := ⟨(c.1.val : Int) - 4, (c.2.val : Int) - 4⟩
def enc8 (c : C8) : List Value := (ce8 c).cells
theorem enc8_len (c : C8) : (enc8 c).length = 2 := rfl
theorem enc8_one (c : C8) : ∀ v ∈ enc8 c, v.oneCell' = true := by
  intro v hv
  simp only [enc8, CeP.cells, List.mem_cons, List.not_mem_nil, or_false] at hv
  rcases hv with rfl | rfl <;> rfl
theorem enc8_flat (cs : List C8) : flat enc8 cs = flat CeP.cells (cs.map ce8) := by
  induction cs with
  | nil => rfl
  | cons c cs ih => rw [show flat enc8 (c :: cs) = enc8 c ++ flat enc8 cs from rfl, ih]; rfl
theorem ce8_inj {a b : C8} (h : ce8 a = ce8 b) : a = b := by
  obtain ⟨a1, a2⟩ := a
  obtain ⟨b1, b2⟩ := b
  simp only [ce8, CeP.mk.injEq] at h
  refine Prod.ext (Fin.ext ?_) (Fin.ext ?_)
  · show a1.val = b1.val
    omega
  · show a2.val = b2.val
    omega
def cmp8 (a b : C8) : Int := if (ce8 a).y = (ce8 b).y then (ce8 a).x - (ce8 b).x else (ce8 a).y - (ce8 b).y
theorem cmp8_lt (a b : C8) : cmp8 a b < 0 ↔ ltC (ce8 a) (ce8 b) := by
  unfold cmp8 ltC
  split <;> omega
theorem ltOf_8 (s t : C8) : ltOf cmp8 s t = true ↔ ltC (ce8 s) (ce8 t) := by
  unfold ltOf
  rw [decide_eq_true_iff, cmp8_lt]
theorem ltOf_8' (s t : C8) : ltOf cmp8 s t = false ↔ ¬ ltC (ce8 s) (ce8 t) := by
  rw [← ltOf_8]; simp
theorem swo8 : SWO (ltOf cmp8) where
  irrefl x := by rw [ltOf_8']; unfold ltC; omega
  trans x y z h1 h2 := by rw [ltOf_8] at *; unfold ltC at *; omega
  ntrans x y z h1 h2 := by rw [ltOf_8'] at *; unfold ltC at *; omega
theorem tot8 (x y : C8) (h1 : ltOf cmp8 x y = false) (h2 : ltOf cmp8 y x = false) : x = y := by
  rw [ltOf_8'] at *
  refine ce8_inj ?_
  cases hx : ce8 x
  cases hy : ce8 y
  rw [hx, hy] at h1 h2
  unfold ltC at h1 h2
  simp only [CeP.mk.injEq] at *
  omega
theorem ce8_rng (c : C8) : -4 ≤ (ce8 c).x ∧ (ce8 c).x ≤ 3 ∧ -4 ≤ (ce8 c).y ∧ (ce8 c).y ≤ 3 := by
  have h1 := c.1.isLt
  have h2 := c.2.isLt
  unfold ce8
  simp only
  omega
set_option maxHeartbeats 2000000 in
theorem cmp8_any (a b : C8) (w : World) :
    Calls Try.prog 40 #[.agg (enc8 a).toArray, .agg (enc8 b).toArray] w fun e w' => e = .returned (.int .i64 (cmp8 a b)) ∧ ∃ q os, w' = grow (w.drewN q) os := by
  show Calls Try.prog 40 #[.agg #[.int .i64 (ce8 a).x, .int .i64 (ce8 a).y], .agg #[.int .i64 (ce8 b).x, .int .i64 (ce8 b).y]] w _
  have ha := ce8_rng a
  have hb := ce8_rng b
  have hc : Hid (cmp8 a b = if (ce8 a).y = (ce8 b).y then (ce8 a).x - (ce8 b).x else (ce8 a).y - (ce8 b).y) := Lib.hid rfl
  obtain ⟨r, hr⟩ : ∃ r, cmp8 a b = r := ⟨_, rfl⟩
  rw [hr] at hc ⊢
  clear hr
  generalize (ce8 a).x = ax at *
  generalize (ce8 a).y = ay at *
  generalize (ce8 b).x = bx at *
  generalize (ce8 b).y = by_ at *
  have wx : IntKind.i64.wrap (ax - bx) = ax - bx := IntWalk.i64_in _ (by omega)
  have wy : IntKind.i64.wrap (ay - by_) = ay - by_ := IntWalk.i64_in _ (by omega)
  by_cases hy : ay = by_
  · have e : r = ax - bx := by rw [hc.out, if_pos hy]
    subst e
    subst hy
    clear hc
    go_enter Try.func40, Try.ntmps40
    go_wp2
    go_ret
    exact ⟨rfl, 0, _, by rw [alloc_eq_grow, alloc_eq_grow, grow_grow]; rfl⟩
  · have e : r = ay - by_ := by rw [hc.out, if_neg hy]
    subst e
    have hne : (ay != by_) = true := bne_iff_ne.2 hy
    clear hc hy
    go_enter Try.func40, Try.ntmps40
    go_wp2
    go_ret
    exact ⟨rfl, 0, _, by rw [alloc_eq_grow, alloc_eq_grow, grow_grow]; rfl⟩
set_option maxHeartbeats 2000000 in
theorem sort8_any (B : Option Addr) (n c : Nat) (cs : List C8) (cur : List Value) (X T : Ents) (w0 w : World) (H : Hid (Hp w0 w (X ++ (rowE (.slice B n c) 78 cur ++ T)))) (R : Hid (RowV 2 (.slice B n c) n (flat enc8 cs) cur)) (hn : n ≤ 1000) :
    Calls Try.prog 39 #[.slice B n c, .func (.func 40) #[] #[]] w fun e w' => e = .returned (.tuple #[]) ∧ ∃ (ds : List C8) (cur' : List Value), ds.Perm cs ∧ ds.Pairwise (fun x y => ¬ ltC (ce8 y) (ce8 x)) ∧ RowV 2 (.slice B n c) n (flat enc8 ds) cur' ∧ Hp w0 w' (X ++ (rowE (.slice B n c) 78 cur' ++ T)) := by
  have hcl : cs.length = n := R.out.len_ enc8_len (by decide)
  rcases Nat.eq_zero_or_pos n with h0 | h0
  · subst h0
    refine (Try.slices_SortFunc_none (α := C8) B c _ w).mono ?_
    rintro e w' ⟨rfl, rfl⟩
    exact ⟨rfl, cs, cur, List.Perm.refl _, by rw [List.eq_nil_of_length_eq_zero hcl]; exact List.Pairwise.nil, R.out, H.out⟩
  · obtain ⟨g, c', e1⟩ := R.out.someI (by intro e; have := R.out.len; rw [e] at this; simp at this; omega)
    cases e1
    have hb : Blk w g 78 cur.toArray := (H.out.blk (g, 78, cur) (by simp [rowE])).2
    have eg : ∀ args w, (callFunc 40 args).run Try.prog w = .ok (.enter 40 args) w := enters_of Try.func40 (by kernel_rfl) rfl
    have hcon := Try.slices_SortFunc_total 2 Try.isAgg78 Try.sizeOf78 enc8 enc8_len enc8_one cmp8 swo8 40 #[] g 0 c cs.toArray w eg (fun _ _ _ _ x y => cmp8_any x y _) (holdsK_row enc8_len R.out hb) hb.lt (by simp; omega) tot8
    simp only [List.size_toArray, hcl] at hcon
    refine hcon.mono ?_
    rintro e w' ⟨rfl, m, os, rfl⟩
    have hp := List.mergeSort_perm cs (fun x y => !(ltOf cmp8) y x)
    have hs := List.pairwise_mergeSort (le := fun x y => !(ltOf cmp8) y x) (fun a b c h1 h2 => by
      simp only [Bool.not_eq_true'] at *
      exact swo8.ntrans c b a h2 h1) (fun a b => by
      cases h : ltOf cmp8 b a
      · rfl
      · have := (ltOf_8 b a).1 h
        have h2 : ltOf cmp8 a b = false := by rw [ltOf_8']; unfold ltC at *; omega
        simp [h2]) cs
    have hl : (cs.mergeSort (fun x y => !(ltOf cmp8) y x)).length = n := by rw [hp.length_eq, hcl]
    obtain ⟨h1, h2⟩ := R.out.sorted enc8_len hl
    refine ⟨rfl, _, _, hp, hs.imp ?_, h1, putRowK_Hp enc8_len H.out _ h2 m os⟩
    intro x y hxy
    simpa [ltOf_8'] using hxy
end Go.Proofs.Ythepafendopfhaa

namespace Go.Proofs.Ythepafendopfhaa
open Go.RowKit
set_option linter.unusedVariables false

/-- What a stream still holds: where, how many cells, which numbers. -/
structure Sd where
  A : Option Addr
  c : Nat
  xs : List Int
def Sd.v (S : Sd) : Value := .slice S.A S.xs.length S.c
def Sd.nx (S : Sd) (n : Int) : Int := match S.xs with
  | [] => 0
  | x :: _ => x % n
def Sd.sn (S : Sd) : Sd := match S.xs with
  | [] => S
  | x :: xs => ⟨if S.c = 1 then S.A else S.A.map (fun p => ⟨p.block, p.off + 1, none⟩), S.c - 1, xs⟩
/-- The numbers lie in what was there before the call. -/
structure Sd.ok (S : Sd) (w0 : World) : Prop where
  le : S.xs.length ≤ S.c
  mx : S.c ≤ maxLen
  at_ : 0 < S.xs.length → ∃ b' o, S.A = some ⟨b', o, none⟩ ∧ b' < w0.heap.size ∧ ∀ (j : Nat) (x : Int), S.xs[j]? = some x → w0.cell? ⟨b', o + j, none⟩ = some (.int .i64 x)
  rg : ∀ x ∈ S.xs, -9223372036854775808 ≤ x ∧ x ≤ 9223372036854775807
theorem Sd.ok.next {S : Sd} {w0 : World} (h : S.ok w0) : S.sn.ok w0 := by
  obtain ⟨A, c, xs⟩ := S
  rcases xs with _ | ⟨x, xs⟩
  · exact h
  · have h1 : xs.length + 1 ≤ c := h.le
    have h2 : c ≤ maxLen := h.mx
    refine ⟨?_, ?_, fun hp => ?_, fun y hy => h.rg y (List.mem_cons_of_mem _ hy)⟩
    · show xs.length ≤ c - 1
      omega
    · show c - 1 ≤ maxLen
      omega
    · obtain ⟨b', o, hA, hb, hc⟩ := h.at_ (by simp)
      have hA' : A = some ⟨b', o, none⟩ := hA
      have hp' : 0 < xs.length := hp
      refine ⟨b', o + 1, ?_, hb, fun j y hj => ?_⟩
      · show (if c = 1 then A else A.map _) = _
        rw [if_neg (by omega), hA']
        rfl
      · have hj' : xs[j]? = some y := hj
        have := hc (j + 1) y (by simpa using hj')
        rwa [show o + 1 + j = o + (j + 1) by omega]
theorem Sd.nx_bd (S : Sd) (n : Int) (h : 1 ≤ n) : 0 ≤ S.nx n ∧ S.nx n < n := by
  unfold Sd.nx
  split
  · omega
  · exact ⟨Int.emod_nonneg _ (by omega), Int.emod_lt_of_pos _ (by omega)⟩
theorem Sd.of_arg {w w0 : World} {A : Option Addr} {n c : Nat} {xs : List Int} (h : IntArg w0 A n c xs) : (⟨A, c, xs⟩ : Sd).ok w0 := by
  obtain ⟨rfl, h2, h3, h4, h5⟩ := h
  exact ⟨h2, h3, fun hp => h4 hp, h5⟩
theorem Upd.same_aux {l l' : Ents} {z : Nat} {T : TypeId} {cs ds : List Value} (h : Upd l z T cs ds l') : cs = ds → l' = l := by
  induction h with
  | head => intro hd; rw [hd]
  | tail h ih => intro hd; rw [ih hd]
theorem Upd.same {l l' : Ents} {z : Nat} {T : TypeId} {cs : List Value} (h : Upd l z T cs cs l') : l' = l := h.same_aux rfl
theorem Hp.set1 {w0 w : World} {l l' : Ents} {b : Nat} {T : TypeId} {u v : Value} (h : Hp w0 w l) (hu : Upd l b T [u] [v] l') : Hp w0 (w.setCell ⟨b, 0, none⟩ v) l' := by
  have hb := (h.blk _ hu.mem).2
  exact h.stored hu ⟨(Below.refl 0 w).setCell (Nat.zero_le _) v, fun k _ hk => Below.heap_setCell w ⟨b, 0, none⟩ v k hk⟩ (by have := hb.set_ 0 v; simpa using this)

set_option maxHeartbeats 400000 in
theorem nextH_any {w0 w : World} {m m' : Ents} (S : Sd) (b : Nat) (n : Int) (H : Hid (Hp w0 w m)) (hS : Hid (S.ok w0)) (hu : Hid (Upd m b 74 [S.v] [S.sn.v] m')) (h1 : 1 ≤ n) (h3 : n ≤ 9223372036854775807) :
    Calls Try.prog 27 #[.pointer (some ⟨b, 0, none⟩), .int .i64 n] w fun e w' => e = .returned (.int .i64 (S.nx n)) ∧ Hp w0 w' m' := by
  have hB : Blk w b 74 #[S.v] := (H.out.blk _ hu.out.mem).2
  have hc := hB.cell 0
  have hfz := hB.frozen 0
  obtain ⟨A, c, xs⟩ := S
  rcases xs with _ | ⟨x, xs⟩
  · simp only [Sd.v, List.length_nil] at hc
    clear hB
    go_enter Try.func27, Try.ntmps27
    go_wp2
    go_ret
    have e := hu.out.same
    subst e
    exact ⟨rfl, H.out⟩
  · obtain ⟨b', o, hA, hb', hcell⟩ := hS.out.at_ (by simp)
    have hA' : A = some ⟨b', o, none⟩ := hA
    subst hA'
    have hcw : w.cell? ⟨b', o, none⟩ = some (.int .i64 x) := by
      rw [H.out.bel.cell (p := ⟨b', o, none⟩) hb']
      exact hcell 0 x (by simp)
    have hxb := hS.out.rg x (by simp)
    have hl' : xs.length + 1 ≤ c := hS.out.le
    have hm : c ≤ maxLen := hS.out.mx
    obtain ⟨hx1, hx2⟩ := hxb
    have Hset := Lib.hid (H.out.set1 hu.out)
    clear hcell hS hu H hA
    simp only [Sd.v, List.length_cons] at hc
    have hd : decide (n < 1) = false := by simp; omega
    have HB := Lib.hid hB; clear hB
    generalize hk : xs.length = k at *
    have Hk := Lib.hid hk; clear hk
    go_enter Try.func27, Try.ntmps27
    go_wp2_with (go_at_call 6; refine (below_any _ _ _ (by omega) hx1 hx2 (by omega)).mono ?_; rintro e w' ⟨rfl, rfl⟩)
    all_goals
      go_ret
      refine ⟨rfl, ?_⟩
      have h := Hset.out
      simp only [Sd.sn, Sd.v] at h
      first | (rw [if_neg (by omega)] at h; rw [Hk.out] at h; exact h) | (have hc1 : c = 1 := (by omega); subst hc1; rw [Hk.out] at h; simpa using h)
end Go.Proofs.Ythepafendopfhaa

namespace Go.Proofs.Ythepafendopfhaa
open Go.RowKit
set_option linter.unusedVariables false
set_option maxRecDepth 100000

theorem okC_8 {ds : List C8} (h1 : ds.Nodup) (h2 : ds.Pairwise (fun x y => ¬ ltC (ce8 y) (ce8 x))) : OkC (ds.map ce8) := by
  refine ⟨fun c hc => ?_, ?_⟩
  · obtain ⟨d, _, rfl⟩ := List.mem_map.1 hc
    have := ce8_rng d
    unfold onC
    omega
  · rw [List.pairwise_map]
    refine (h1.and h2).imp fun {x y} h => ?_
    refine Decidable.byContradiction fun hn => h.1 (ce8_inj ?_)
    have h3 := h.2
    cases hx : ce8 x
    cases hy : ce8 y
    rw [hx, hy] at hn h3
    unfold ltC at hn h3
    simp only [CeP.mk.injEq] at *
    omega
theorem to8 {z : Int} (h0 : 0 ≤ z) (h1 : z < 8) : ∃ a : Fin 8, (a.val : Int) = z := ⟨⟨z.toNat, by omega⟩, by simp; omega⟩
set_option maxHeartbeats 8000000 in
theorem Cells_any (S : Sd) (w0 w : World) (m : Ents) (H : Hid (Hp w0 w m)) (hS : Hid (S.ok w0)) :
    Calls Try.prog 28 #[S.v] w fun e w' => ∃ (B : Option Addr) (n c : Nat) (cs : List CeP) (cur : List Value), e = .returned (.slice B n c) ∧ OkC cs ∧ n ≤ 9 ∧ RowV 2 (.slice B n c) n (flat CeP.cells cs) cur ∧ Hp w0 w' (rowE (.slice B n c) 78 cur ++ m) := by
  have hnx := S.nx_bd 9 (by omega)
  obtain ⟨K, hK⟩ := Int.eq_ofNat_of_zero_le hnx.1
  have hK9 : K < 9 := by omega
  have HKK := Lib.hid hK
  clear hnx hK
  show Calls Try.prog 28 #[.slice S.A S.xs.length S.c] w _
  go_enter Try.func28, Try.ntmps28
  go_wp2_with (first
      | go_skip
      | ((with_reducible refine isBox ?_); refine bxA H ?_; clear H; intro b3 _ H))
  replace H := (show Hid (Hp w0 _ ((b3, 74, [S.v]) :: m)) from H)
  go_at_call 27
  refine Calls.mono (nextH_any S b3 9 H hS (Lib.hid .head) (by omega) (by omega)) ?_
  rintro _ _ ⟨rfl, h2⟩
  replace H := Lib.hid h2
  rw [HKK.out]
  clear h2
  go_wp2_with (first
      | go_skip)
  go_loopw [4, 11] (fun v_ i_ wr => ∃ (i k : Nat) (v : Value) (cur : List Value) (S1 : Sd) (cs : List C8), v = v_ ∧ i_ = .int .i64 i ∧ i ≤ K ∧ k ≤ i ∧ Hid (S1.ok w0) ∧ Hid cs.Nodup ∧ Hid (cs.length = k) ∧ Hid (RowV 2 v k (flat enc8 cs) cur) ∧ Hid (Hp w0 wr ((b3, 74, [S1.v]) :: (rowE v 78 cur ++ m)))) (fun _ i_ _ => K - (intOf i_).toNat)
  case atStart => exact ⟨0, 0, .slice none 0 0, [], S.sn, [], rfl, rfl, by omega, by omega, Lib.hid hS.out.next, Lib.hid List.nodup_nil, Lib.hid rfl, Lib.hid (RowV.nil 2), H⟩
  case round =>
    clear H
    obtain ⟨i, k, v, cur, S1, cs, rfl, rfl, hi, hk, HS1, ND, CL, R, H⟩ := hrel
    obtain ⟨Bv, cv, rfl, _⟩ := R.out.shape
    by_cases hlt : i < K
    · go_wp2_with (first
          | go_skip)
      go_at_call 27
      refine Calls.mono (nextH_any S1 b3 8 H HS1 (Lib.hid .head) (by omega) (by omega)) ?_
      rintro _ _ ⟨rfl, h2⟩
      replace H := Lib.hid h2
      clear h2
      obtain ⟨fx, hfx⟩ := to8 (S1.nx_bd 8 (by omega)).1 (S1.nx_bd 8 (by omega)).2
      obtain ⟨px, hpx⟩ : ∃ p, p = S1.nx 8 := ⟨_, rfl⟩
      have hpb := S1.nx_bd 8 (by omega)
      rw [← hpx] at hfx hpb ⊢
      have wx : IntKind.i64.wrap (px - 4) = px - 4 := IntWalk.i64_in _ (by omega)
      have HFX := Lib.hid hfx
      clear hfx hpx
      go_wp2_with (first
          | go_skip)
      go_at_call 27
      refine Calls.mono (nextH_any S1.sn b3 8 H (Lib.hid HS1.out.next) (Lib.hid .head) (by omega) (by omega)) ?_
      rintro _ _ ⟨rfl, h2⟩
      replace H := Lib.hid h2
      clear h2
      obtain ⟨fy, hfy⟩ := to8 (S1.sn.nx_bd 8 (by omega)).1 (S1.sn.nx_bd 8 (by omega)).2
      obtain ⟨py, hpy⟩ : ∃ p, p = S1.sn.nx 8 := ⟨_, rfl⟩
      have hqb := S1.sn.nx_bd 8 (by omega)
      rw [← hpy] at hfy hqb ⊢
      have wy : IntKind.i64.wrap (py - 4) = py - 4 := IntWalk.i64_in _ (by omega)
      have HFY := Lib.hid hfy
      clear hfy hpy
      go_wp2_with (first
          | go_skip
          | ((with_reducible refine isAlloc ?_); refine alA H ?_ (hz := zCel); clear H; intro b5 _ H)
          | ((with_reducible refine isStore ?_); refine stA H ?_ (hT := rCel) (hu := by (repeat (first | apply Upd.head | apply Upd.tail | apply Upd.appA | assumption))); clear H; intro _ H)
          | ((with_reducible refine isLoad ?_); refine ldA H ?_ (hT := rCel) (hm := by (repeat (first | exact List.Mem.head _ | refine List.Mem.tail _ ?_ | refine List.mem_append_right _ ?_ | assumption)))))
      have hce : (⟨px - 4, py - 4⟩ : CeP) = ce8 (fx, fy) := by unfold ce8; rw [← HFX.out, ← HFY.out]
      have HCE := Lib.hid hce
      clear hce
      go_at_call 38
      refine Calls.mono (contC_any _ Bv k cv (cs.map ce8) ⟨px - 4, py - 4⟩ w0 _ _ H (Lib.hid ⟨cur, by have := R.out; rw [enc8_flat] at this; exact this, fun x hx => hx⟩) (fun z hz => .tail _ (.tail _ (List.mem_append_left _ hz))) (by omega)) ?_
      rintro _ _ ⟨rfl, h2⟩
      replace H := Lib.hid h2
      clear h2
      by_cases hm : (fx, fy) ∈ cs
      · have hd : decide ((⟨px - 4, py - 4⟩ : CeP) ∈ cs.map ce8) = true := decide_eq_true (by rw [HCE.out]; exact List.mem_map_of_mem hm)
        rw [hd]
        clear hm hd
        go_wp2_with (first
            | go_skip)
        go_roundw
        case rel => exact ⟨i + 1, k, _, cur, S1.sn.sn, cs, rfl, by go_num, by omega, by omega, Lib.hid HS1.out.next.next, ND, CL, R, Lib.hid H.out.drop⟩
        case measure => simp [intOf]; omega
      · have hd : decide ((⟨px - 4, py - 4⟩ : CeP) ∈ cs.map ce8) = false := decide_eq_false (by
          rw [HCE.out]
          intro h
          obtain ⟨d, h1, h2⟩ := List.mem_map.1 h
          exact hm (ce8_inj h2 ▸ h1))
        have HM := Lib.hid hm
        rw [hd]
        clear hm hd
        go_wp2_with (first
            | go_skip
            | ((with_reducible refine isLoad ?_); refine ldA H ?_ (hT := rCel) (hm := by (repeat (first | exact List.Mem.head _ | refine List.Mem.tail _ ?_ | refine List.mem_append_right _ ?_ | assumption))))
            | ((with_reducible refine isSlc ?_); refine bsA 78 [.int .i64 (px - 4), .int .i64 (py - 4)] 1 H ?_; clear H; intro g8 _ H)
            | ((with_reducible refine isApp ?_); refine wpList_appH [(g8, 78, [.int .i64 (px - 4), .int .i64 (py - 4)]), (b5, 78, [.int .i64 (px - 4), .int .i64 (py - 4)]), (b3, 74, _)] m H R (by rfl) iCel (by decide) Try.underlying37 (by rfl) (by rfl) (by rfl) (by rfl) (.head _) (by rfl) (by rfl) (by omega) (by simp only [maxLen]; omega) (by omega) ?_; clear H; intro v3 cur3 _ R3 H; simp only [List.cons_append, List.nil_append] at H))
        have R' : Hid (RowV 2 v3 (k + 1) (flat enc8 (cs ++ [(fx, fy)])) cur3) := Lib.hid (by
          rw [show flat enc8 (cs ++ [(fx, fy)]) = flat enc8 cs ++ (ce8 (fx, fy)).cells by simp [flat, enc8], ← HCE.out]
          exact R3.out)
        go_roundw
        case rel => exact ⟨i + 1, k + 1, v3, cur3, S1.sn.sn, cs ++ [(fx, fy)], rfl, by go_num, by omega, by omega, Lib.hid HS1.out.next.next, Lib.hid (by rw [List.nodup_append]; exact ⟨ND.out, by simp, fun a ha b hb e => HM.out (by rw [List.mem_singleton] at hb; rw [← hb, ← e]; exact ha)⟩), Lib.hid (by rw [List.length_append, CL.out]; rfl), R', Lib.hid H.out.drop.drop⟩
        case measure => simp [intOf]; omega
    · obtain rfl : i = K := by omega
      go_wp2_with (first
          | go_skip)
      go_at_call 39
      refine Calls.mono (sort8_any Bv k cv cs cur [(b3, 74, [S1.v])] m w0 _ H R (by omega)) ?_
      rintro _ _ ⟨rfl, ds, cur2, hp, hs, hR, h2⟩
      replace H := Lib.hid h2
      have R2 := Lib.hid hR
      have OK := Lib.hid (okC_8 (hp.nodup_iff.2 ND.out) hs)
      clear h2 hR hp hs
      go_wp2_with (first
          | go_skip)
      go_ret
      exact ⟨Bv, k, cv, ds.map ce8, cur2, rfl, OK.out, by omega, by have := R2.out; rw [enc8_flat] at this; exact this, H.out.drop⟩
end Go.Proofs.Ythepafendopfhaa

namespace Go.Proofs.Ythepafendopfhaa
open Go.RowKit
set_option linter.unusedVariables false
set_option maxRecDepth 100000

theorem kIs : ∃ d, Try.prog.underlying 23 = some d ∧ d.isRow = false := ⟨_, Try.underlying23, rfl⟩
theorem sIs : (Try.prog.info? 23).map (·.size) = some 1 := by kernel_rfl
set_option maxHeartbeats 8000000 in
theorem Msg_any (S : Sd) (w0 w : World) (m : Ents) (H : Hid (Hp w0 w m)) (hS : Hid (S.ok w0)) :
    Calls Try.prog 13 #[S.v] w fun e w' => ∃ (x : MsP) (B : Option Addr) (n c : Nat) (cur : List Value), e = .returned (.agg (x.v B n c).toArray) ∧ x.fit ∧ RowV 2 (.slice B n c) n (flat CeP.cells x.cells) cur ∧ Hp w0 w' (rowE (.slice B n c) 78 cur ++ m) := by
  show Calls Try.prog 13 #[.slice S.A S.xs.length S.c] w _
  go_enter Try.func13, Try.ntmps13
  go_wp2_with (first
      | go_skip
      | ((with_reducible refine isAlloc ?_); refine alA H ?_ (hz := zMsg); clear H; intro b2 _ H)
      | ((with_reducible refine isBox ?_); refine bxA H ?_; clear H; intro b3 _ H))
  replace H := (show Hid (Hp w0 _ ((b3, 74, [S.v]) :: (b2, 39, [.int .i64 0, .int .i64 0, .int .i64 0, .int .i64 0, .int .u32 0, .slice none 0 0]) :: m)) from H)
  go_at_call 27
  refine Calls.mono (nextH_any S b3 4 H (Lib.hid hS.out) (Lib.hid .head) (by omega) (by omega)) ?_
  rintro _ _ ⟨rfl, h2⟩
  replace H := Lib.hid h2
  clear h2
  obtain ⟨pk, hpk⟩ : ∃ p, p = (S).nx 4 := ⟨_, rfl⟩
  have hbpk := (S).nx_bd 4 (by omega)
  rw [← hpk] at hbpk ⊢
  clear hpk
  go_wp2_with (first
      | go_skip)
  go_at_call 27
  refine Calls.mono (nextH_any S.sn b3 4 H (Lib.hid hS.out.next) (Lib.hid .head) (by omega) (by omega)) ?_
  rintro _ _ ⟨rfl, h2⟩
  replace H := Lib.hid h2
  clear h2
  obtain ⟨pf, hpf⟩ : ∃ p, p = (S.sn).nx 4 := ⟨_, rfl⟩
  have hbpf := (S.sn).nx_bd 4 (by omega)
  rw [← hpf] at hbpf ⊢
  clear hpf
  go_wp2_with (first
      | go_skip)
  go_at_call 27
  refine Calls.mono (nextH_any S.sn.sn b3 4 H (Lib.hid hS.out.next.next) (Lib.hid .head) (by omega) (by omega)) ?_
  rintro _ _ ⟨rfl, h2⟩
  replace H := Lib.hid h2
  clear h2
  obtain ⟨pd, hpd⟩ : ∃ p, p = (S.sn.sn).nx 4 := ⟨_, rfl⟩
  have hbpd := (S.sn.sn).nx_bd 4 (by omega)
  rw [← hpd] at hbpd ⊢
  clear hpd
  go_wp2_with (first
      | go_skip)
  go_at_call 27
  refine Calls.mono (nextH_any S.sn.sn.sn b3 1000 H (Lib.hid hS.out.next.next.next) (Lib.hid .head) (by omega) (by omega)) ?_
  rintro _ _ ⟨rfl, h2⟩
  replace H := Lib.hid h2
  clear h2
  obtain ⟨ps, hps⟩ : ∃ p, p = (S.sn.sn.sn).nx 1000 := ⟨_, rfl⟩
  have hbps := (S.sn.sn.sn).nx_bd 1000 (by omega)
  rw [← hps] at hbps ⊢
  clear hps
  go_wp2_with (first
      | go_skip)
  go_at_call 27
  refine Calls.mono (nextH_any S.sn.sn.sn.sn b3 4294967296 H (Lib.hid hS.out.next.next.next.next) (Lib.hid .head) (by omega) (by omega)) ?_
  rintro _ _ ⟨rfl, h2⟩
  replace H := Lib.hid h2
  clear h2
  obtain ⟨pc, hpc⟩ : ∃ p, p = (S.sn.sn.sn.sn).nx 4294967296 := ⟨_, rfl⟩
  have hbpc := (S.sn.sn.sn.sn).nx_bd 4294967296 (by omega)
  rw [← hpc] at hbpc ⊢
  clear hpc
  have ew : pc % 4294967296 = pc := Int.emod_eq_of_lt hbpc.1 hbpc.2
  have ew2 : IntKind.u32.wrap pc = pc := by simp [IntKind.wrap, IntKind.bits, IntKind.signed]; omega
  by_cases h3 : pk = 3
  · subst h3
    go_wp2_with (first
        | go_skip
        | ((with_reducible refine isAlloc ?_); refine alA H ?_ (hz := zMsg); clear H; intro b4 _ H)
        | ((with_reducible refine isStore ?_); refine stA H ?_ (hT := rMsg) (hu := by (repeat (first | apply Upd.head | apply Upd.tail | apply Upd.appA | assumption))); clear H; intro _ H)
        | ((with_reducible refine isLoad ?_); refine ld1A H ?_ (hT := kIntG) (hm := by (repeat (first | exact List.Mem.head _ | refine List.Mem.tail _ ?_ | refine List.mem_append_right _ ?_ | assumption))))
        | ((with_reducible refine isLoad ?_); refine ldA H ?_ (hT := rMsg) (hm := by (repeat (first | exact List.Mem.head _ | refine List.Mem.tail _ ?_ | refine List.mem_append_right _ ?_ | assumption)))))
    exact bodyPost_ret (results_H H Try.results13 (by exact rMsg) rfl (by (repeat (first | exact List.Mem.head _ | refine List.Mem.tail _ ?_ | refine List.mem_append_right _ ?_ | assumption))) (by rfl)) rfl ⟨⟨3, pf, pd, ps, pc, []⟩, none, 0, 0, [], rfl, ⟨(by show (0 : Int) ≤ 3; decide), (by show (3 : Int) ≤ 3; decide), hbpf.1, by simp; omega, hbpd.1, by simp; omega, hbps.1, by simp; omega, hbpc.1, hbpc.2, ⟨(by intro c hc; cases hc), List.Pairwise.nil⟩, by simp, fun _ => rfl⟩, RowV.nil 2, H.out.drop.drop.drop⟩
  · have hne : (pk != 3) = true := bne_iff_ne.2 h3
    have H3 := Lib.hid h3
    clear h3
    go_wp2_with (first
        | go_skip
        | ((with_reducible refine isAlloc ?_); refine alA H ?_ (hz := zMsg); clear H; intro b4 _ H)
        | ((with_reducible refine isStore ?_); refine stA H ?_ (hT := rMsg) (hu := by (repeat (first | apply Upd.head | apply Upd.tail | apply Upd.appA | assumption))); clear H; intro _ H)
        | ((with_reducible refine isLoad ?_); refine ld1A H ?_ (hT := kIntG) (hm := by (repeat (first | exact List.Mem.head _ | refine List.Mem.tail _ ?_ | refine List.mem_append_right _ ?_ | assumption))))
        | ((with_reducible refine isLoad ?_); refine ldA H ?_ (hT := rMsg) (hm := by (repeat (first | exact List.Mem.head _ | refine List.Mem.tail _ ?_ | refine List.mem_append_right _ ?_ | assumption))))
        | ((with_reducible refine isLoad ?_); refine ld1A H ?_ (hT := kIs)))
    go_at_call 28
    refine Calls.mono (Cells_any S.sn.sn.sn.sn.sn w0 _ _ H (Lib.hid hS.out.next.next.next.next.next)) ?_
    rintro _ _ ⟨B, n, c, cs, cur, rfl, hok, hn, hR, h2⟩
    replace H := Lib.hid h2
    have R := Lib.hid hR
    have OK := Lib.hid hok
    clear h2 hR hok
    replace H := Lib.hid (H.out.perm (List.perm_append_comm (l₁ := rowE (.slice B n c) 78 cur)))
    simp only [List.cons_append] at H
    go_wp2_with (first
        | go_skip
        | ((with_reducible refine isStore ?_); (first | (refine st1A (v := .slice B n c) H ?_ (hT := sCls) (hu := by (repeat (first | apply Upd.head | apply Upd.tail | apply Upd.appA | assumption)))) | (refine stA H ?_ (hT := rMsg) (hu := by (repeat (first | apply Upd.head | apply Upd.tail | apply Upd.appA | assumption))))); clear H; intro _ H)
        | ((with_reducible refine isLoad ?_); refine ldA H ?_ (hT := rMsg) (hm := by (repeat (first | exact List.Mem.head _ | refine List.Mem.tail _ ?_ | refine List.mem_append_right _ ?_ | assumption)))))
    exact bodyPost_ret (results_H H Try.results13 (by exact rMsg) rfl (by (repeat (first | exact List.Mem.head _ | refine List.Mem.tail _ ?_ | refine List.mem_append_right _ ?_ | assumption))) (by rfl)) rfl ⟨⟨pk, pf, pd, ps, pc, cs⟩, B, n, c, cur, rfl, ⟨hbpk.1, by simp; omega, hbpf.1, by simp; omega, hbpd.1, by simp; omega, hbps.1, by simp; omega, hbpc.1, hbpc.2, OK.out, by have h := R.out.len_ CeP.len (by decide); simp; omega, fun h => absurd h H3.out⟩, R.out, (H.out.drop.drop.drop.perm List.perm_append_comm)⟩
set_option maxHeartbeats 4000000 in
theorem mSame_any (x : MsP) (E1 E2 : Ents) (A B : Option Addr) (n c d : Nat) (w0 w : World) (m : Ents) (H : Hid (Hp w0 w m)) (RX : Hid (RowIn E1 78 2 (.slice A n c) n (flat CeP.cells x.cells))) (RY : Hid (RowIn E2 78 2 (.slice B n d) n (flat CeP.cells x.cells))) (h1 : Hid (∀ z ∈ E1, z ∈ m)) (h2 : Hid (∀ z ∈ E2, z ∈ m)) (hn : n ≤ 1000) :
    Calls Try.prog 17 #[.agg (x.v A n c).toArray, .agg (x.v B n d).toArray] w fun e w' => e = .returned (.bool true) ∧ Hp w0 w' m := by
  show Calls Try.prog 17 #[.agg #[.int .i64 x.kind, .int .i64 x.frm, .int .i64 x.dst, .int .i64 x.seq, .int .u32 x.clock, .slice A n c], .agg #[.int .i64 x.kind, .int .i64 x.frm, .int .i64 x.dst, .int .i64 x.seq, .int .u32 x.clock, .slice B n d]] w _
  go_enter Try.func17, Try.ntmps17
  go_wp2_with (first
      | go_skip
      | ((with_reducible refine isBox ?_); refine bxA H ?_; clear H; intro _ _ H)
      | ((with_reducible refine isLoad ?_); refine ld1A H ?_ (hT := by first | exact kIntG | exact kCls | exact kU32) (hm := by (repeat (first | exact List.Mem.head _ | refine List.Mem.tail _ ?_ | refine List.mem_append_right _ ?_ | assumption)))))
  go_at_call 32
  refine Calls.mono (eqCs_any E1 E2 A B n c d x.cells w0 _ _ H RX RY (fun z hz => .tail _ (.tail _ (h1.out z hz))) (fun z hz => .tail _ (.tail _ (h2.out z hz))) hn) ?_
  rintro _ _ ⟨rfl, h2⟩
  replace H := Lib.hid h2
  clear h2
  go_wp2_with (first
      | go_skip
      | ((with_reducible refine isBox ?_); refine bxA H ?_; clear H; intro _ _ H)
      | ((with_reducible refine isLoad ?_); refine ld1A H ?_ (hT := by first | exact kIntG | exact kCls | exact kU32) (hm := by (repeat (first | exact List.Mem.head _ | refine List.Mem.tail _ ?_ | refine List.mem_append_right _ ?_ | assumption)))))
  go_ret
  exact ⟨rfl, H.out.drop.drop⟩
end Go.Proofs.Ythepafendopfhaa

namespace Go.Proofs.Ythepafendopfhaa
open Go.RowKit
set_option linter.unusedVariables false

def recB (last : Int) (r : List Int) : List Int := lenB r.length ++ r ++ be4 (sumL last r)
def logT (s : List Int × Int) (r : List Int) : List Int × Int := (s.1 ++ recB s.2 r, sumL s.2 r)
/-- The bytes of a log with records, and its last checksum. -/
def logB (rs : List (List Int)) : List Int × Int := rs.foldl logT ([], 0)
def offL (rs : List (List Int)) (j : Nat) : Nat := (logB (rs.take j)).1.length
def lastL (rs : List (List Int)) (j : Nat) : Int := (logB (rs.take j)).2
theorem recB_len (last : Int) (r : List Int) : (recB last r).length = 6 + r.length := by
  unfold recB
  rw [List.length_append, List.length_append, be4_len]
  simp [lenB]
  omega
theorem logB_snoc (rs : List (List Int)) (r : List Int) : logB (rs ++ [r]) = ((logB rs).1 ++ recB (logB rs).2 r, sumL (logB rs).2 r) := by
  unfold logB
  rw [List.foldl_append]
  rfl
theorem logB_take {rs : List (List Int)} {j : Nat} {r : List Int} (h : rs[j]? = some r) : logB (rs.take (j + 1)) = ((logB (rs.take j)).1 ++ recB (lastL rs j) r, sumL (lastL rs j) r) := by
  rw [List.take_add_one, h]
  exact logB_snoc _ _
theorem offL_succ {rs : List (List Int)} {j : Nat} {r : List Int} (h : rs[j]? = some r) : offL rs (j + 1) = offL rs j + (6 + r.length) := by
  unfold offL
  rw [logB_take h, List.length_append, recB_len]
theorem lastL_succ {rs : List (List Int)} {j : Nat} {r : List Int} (h : rs[j]? = some r) : lastL rs (j + 1) = sumL (lastL rs j) r := by
  unfold lastL
  rw [logB_take h]
  rfl
theorem logT_ext : ∀ (rs : List (List Int)) (s : List Int × Int), ∃ t, (rs.foldl logT s).1 = s.1 ++ t
  | [], s => ⟨[], by simp⟩
  | r :: rs, s => by
    obtain ⟨t, h⟩ := logT_ext rs (logT s r)
    exact ⟨recB s.2 r ++ t, by rw [List.foldl_cons, h]; unfold logT; simp⟩
theorem logB_pre (rs : List (List Int)) (j : Nat) : ∃ t, (logB rs).1 = (logB (rs.take j)).1 ++ t := by
  obtain ⟨t, h⟩ := logT_ext (rs.drop j) (logB (rs.take j))
  refine ⟨t, ?_⟩
  rw [← h]
  unfold logB
  rw [← List.foldl_append, List.take_append_drop]
theorem offL_all (rs : List (List Int)) : offL rs rs.length = (logB rs).1.length := by unfold offL; rw [List.take_length]
theorem lastL_all (rs : List (List Int)) : lastL rs rs.length = (logB rs).2 := by unfold lastL; rw [List.take_length]
theorem offL_le (rs : List (List Int)) (j : Nat) : offL rs j ≤ (logB rs).1.length := by
  obtain ⟨t, h⟩ := logB_pre rs j
  unfold offL
  rw [h, List.length_append]
  omega
theorem offL_mono {rs : List (List Int)} {i j : Nat} (h : i ≤ j) : offL rs i ≤ offL rs j := by
  have h1 := offL_le (rs.take j) i
  unfold offL at h1 ⊢
  rw [List.take_take, Nat.min_eq_left h] at h1
  exact h1
theorem offL_zero (rs : List (List Int)) : offL rs 0 = 0 := rfl
theorem lastL_rng (rs : List (List Int)) : ∀ j, j ≤ rs.length → 0 ≤ lastL rs j ∧ lastL rs j < 4294967296
  | 0, _ => by unfold lastL; exact ⟨Int.le_refl _, (by show (0 : Int) < 4294967296; decide)⟩
  | j + 1, h => by
    obtain ⟨r, hr⟩ : ∃ r, rs[j]? = some r := ⟨_, List.getElem?_eq_getElem h⟩
    rw [lastL_succ hr]
    exact crc_range _
/-- What lies where a record begins. -/
theorem log_at {rs : List (List Int)} {j : Nat} {r : List Int} (h : rs[j]? = some r) : ∃ p t, (logB rs).1 = p ++ recB (lastL rs j) r ++ t ∧ p.length = offL rs j := by
  obtain ⟨t, ht⟩ := logB_pre rs (j + 1)
  rw [logB_take h] at ht
  exact ⟨_, t, ht, rfl⟩
theorem part_mid {α : Type} (p q t : List α) {lo hi : Nat} (h : hi ≤ q.length) : ((p ++ q ++ t).take (p.length + hi)).drop (p.length + lo) = (q.take hi).drop lo := by
  rw [List.append_assoc, List.take_length_add_append, List.drop_length_add_append, List.take_append_of_le_length h]
theorem at_mid {α : Type} (p q t : List α) {i : Nat} {x : α} (h : q[i]? = some x) : (p ++ q ++ t)[p.length + i]? = some x := by
  rw [List.append_assoc, List.getElem?_append_right (by omega), show p.length + i - p.length = i by omega, List.getElem?_append_left (lt_of_at h)]
  exact h
theorem recB_0 (last : Int) (r : List Int) : (recB last r)[0]? = some ((r.length : Int) / 256) := rfl
theorem recB_1 (last : Int) (r : List Int) : (recB last r)[1]? = some ((r.length : Int) % 256) := rfl
theorem recB_rec (last : Int) (r : List Int) : ((recB last r).take (2 + r.length)).drop 2 = r := by
  unfold recB
  rw [List.append_assoc]
  show (((lenB r.length) ++ (r ++ be4 (sumL last r))).take ((lenB r.length).length + r.length)).drop (lenB r.length).length = r
  rw [List.take_length_add_append, List.drop_left, List.take_left]
theorem recB_sum (last : Int) (r : List Int) : ((recB last r).take (6 + r.length)).drop (2 + r.length) = be4 (sumL last r) := by
  rw [List.take_of_length_le (by rw [recB_len]; omega)]
  unfold recB
  show ((lenB r.length ++ r) ++ be4 (sumL last r)).drop (2 + r.length) = _
  rw [show 2 + r.length = (lenB r.length ++ r).length by rw [List.length_append]; rfl]
  exact List.drop_left
theorem bits_or_i64 (a b : Nat) (ha : a < 65536) (hb : b < 65536) : bits .or .i64 (a : Int) (b : Int) = ((a ||| b : Nat) : Int) := by
  have hx : a ||| b < 2 ^ 16 := Nat.or_lt_two_pow (by omega) (by omega)
  have h1 : (BitVec.ofInt 64 (a : Int)).toNat = a := by
    rw [BitVec.ofInt_natCast, BitVec.toNat_ofNat]; exact Nat.mod_eq_of_lt (by omega)
  have h2 : (BitVec.ofInt 64 (b : Int)).toNat = b := by
    rw [BitVec.ofInt_natCast, BitVec.toNat_ofNat]; exact Nat.mod_eq_of_lt (by omega)
  show IntKind.i64.wrap ((BitVec.ofInt 64 (a : Int) ||| BitVec.ofInt 64 (b : Int)).toNat : Int) = _
  rw [BitVec.toNat_or, h1, h2]
  exact IntWalk.i64_in _ (by omega)
theorem or_len {n : Nat} (h : n ≤ 2000) : bits .or .i64 ((n : Int) / 256 * 256) ((n : Int) % 256) = n := by
  have h1 := bits_or_i64 (n / 256 * 256) (n % 256) (by omega) (by omega)
  rw [or_add _ _ (by omega)] at h1
  have e : n / 256 * 256 + n % 256 = n := by omega
  have e1 : ((n / 256 * 256 : Nat) : Int) = (n : Int) / 256 * 256 := by omega
  have e2 : ((n % 256 : Nat) : Int) = (n : Int) % 256 := by omega
  rw [e, e1, e2] at h1
  exact h1
theorem adv_zero (A : Option Addr) (c : Nat) : adv A c 0 = A := by
  unfold adv
  split
  · rfl
  · cases A with
    | none => rfl
    | some p => simp [Addr.add]
section
variable {P : Program} {ops : Array Oper} {rest : List Oper} {o : Oper} {a a2 : Act} {w : World} {Q : Exit → Act → World → Prop}
/-- The first elements of a slice. -/
theorem slH {t : TypeId} {A : Option Addr} {n c : Nat} (hi : Nat) {x h : Operand} (hK : wpList P ops Q rest a2 w) (h2 : hi ≤ c) (ht : P.underlying t = some (.slice (P.elem t))) (hz : ∀ w, (Go.sizeOf (P.elem t)).run P w = .ok 1 w) (ho : o.op = .slice t x none (some h) none := by rfl) (hx : a.eval x = .slice A n c := by rfl) (hhi : a.eval h = .int .i64 hi := by rfl)
    (hg : Region.wanted o (yielded ops a.tmps) = true := by first | exact wanted_none rfl | exact wanted_some rfl rfl) (hn : a.put o.dst (.slice A hi c) = a2 := by (simp only [Act.put, List.setIfInBounds_toArray, List.set_cons_succ, List.set_cons_zero]; rfl)) : wpList P ops Q (o :: rest) a w := by
  subst hn
  refine wpList_step fun K hK' => ?_
  rw [if_pos hg]
  unfold Oper.wp execOp
  have hr := run_slice_h (P := P) w t A n c ht .i64 (hi : Int) (by omega) (by omega)
  have ha := adv_zero A c
  unfold adv at ha
  simp only [ho, hx, hhi, Option.map_some, Option.map_none, Sem.run_bind, Sem.run_pure, run_sliceAt_slice w t _ _ _ _ ht, hr, hz, Result.andThen_ok, sliced, Int.toNat_natCast]
  rw [Oper.upon_value]
  simp only [Nat.sub_zero]
  have ha2 : (if c = 0 then A else Option.map (fun x => x.add (0 * 1)) A) = A := ha
  rw [ha2]
  exact hK' _ _ hK
end
theorem part_log {α : Type} {p rec t : List α} {n q hi lo : Nat} (hq : p.length = q) (hh : hi ≤ rec.length) (hn : q + hi ≤ n) : (((((p ++ rec ++ t).take n).take n).drop q).take hi).drop lo = (rec.take hi).drop lo := by
  congr 1
  rw [List.take_take, Nat.min_self, List.drop_take, List.take_take, Nat.min_eq_left (by omega), List.append_assoc, ← hq, List.drop_left, List.take_append_of_le_length hh]
theorem at_log {α : Type} {p rec t : List α} {n q i : Nat} {x : α} (hq : p.length = q) (hx : rec[i]? = some x) (hn : q + i < n) : ((p ++ rec ++ t).take n)[q + i]? = some x := by
  rw [List.getElem?_take, if_pos hn, ← hq]
  exact at_mid p rec t hx
end Go.Proofs.Ythepafendopfhaa

namespace Go.Proofs.Ythepafendopfhaa
open Go.RowKit
set_option linter.unusedVariables false
set_option maxRecDepth 100000

/-- What scan answers. -/
structure ScanP (rs : List (List Int)) (n k : Nat) : Prop where
  le : k ≤ rs.length
  in_ : offL rs k ≤ n
  out_ : k = rs.length ∨ n < offL rs (k + 1)
/-- Rows of bytes that lie in known blocks. -/
def VBs (E : Ents) (rs : List (List Int)) (vs : List Value) : Prop := All2 (VB E) rs vs
theorem scan_move {R3 R5 EN m : Ents} : (R5 ++ ((R3 ++ EN) ++ m)).Perm (R3 ++ (R5 ++ (EN ++ m))) := by
  rw [List.append_assoc]
  exact List.perm_append_comm_assoc _ _ _
theorem VB.of_row {v : Value} {n : Nat} {bs : List Int} {cur : List Value} (h : RowV 1 v n (bv bs) cur) : VB (rowE v 5 cur) bs v := by
  obtain ⟨B, c, rfl, _⟩ := h.shape
  have hl : bs.length = n := by rw [← bv_len]; simpa using h.len
  subst hl
  exact ⟨B, c, rfl, VIn.of_row h⟩
set_option maxHeartbeats 16000000 in
theorem scan_any (rs : List (List Int)) (A : Option Addr) (n c : Nat) (w0 w : World) (m : Ents) (H : Hid (Hp w0 w m)) (V : Hid (VIn m 5 A n c (bv ((logB rs).1.take n)))) (hR : Hid (∀ r ∈ rs, 0 < r.length ∧ r.length ≤ 2000)) (hrl : rs.length ≤ 100) (hn : Hid (n ≤ (logB rs).1.length)) (hn1 : n ≤ 100000) :
    Calls Try.prog 24 #[.slice A n c] w fun e w' => ∃ (k : Nat) (v : Value) (vs cur : List Value) (EN : Ents), e = .returned (.tuple #[v, .int .i64 (offL rs k), .int .u32 (lastL rs k)]) ∧ ScanP rs n k ∧ RowV 1 v k vs cur ∧ VBs EN (rs.take k) vs ∧ Hp w0 w' (rowE v 44 cur ++ (EN ++ m)) := by
  have hnc := V.out.nc
  have hcm := V.out.cm
  go_enter Try.func24, Try.ntmps24
  go_wp2_with (first
      | go_skip)
  go_loopw [2, 3, 4] (fun v_ s_ l_ wr => ∃ (j q : Nat) (lt : Int) (v : Value) (vs cur : List Value) (EN : Ents), v = v_ ∧ s_ = .int .i64 q ∧ l_ = .int .u32 lt ∧ q ≤ n ∧ j ≤ rs.length ∧ Hid (q = offL rs j) ∧ Hid (lt = lastL rs j) ∧ Hid (RowV 1 v j vs cur) ∧ Hid (VBs EN (rs.take j) vs) ∧ Hid (Hp w0 wr (rowE v 44 cur ++ (EN ++ m)))) (fun _ s_ _ _ => n - (intOf s_).toNat)
  case atStart => exact ⟨0, 0, 0, .slice none 0 0, [], [], [], rfl, rfl, rfl, by omega, by omega, Lib.hid rfl, Lib.hid rfl, Lib.hid (RowV.nil 1), Lib.hid All2.nil, H⟩
  case round =>
    clear H
    obtain ⟨j, q, lt, v, vs, cur, EN, rfl, rfl, rfl, hq, hj, OF, LT, R, VS, H⟩ := hrel
    obtain ⟨Bv, cv, rfl, _⟩ := R.out.shape
    by_cases h6 : n - q < 6
    · have hd6 : decide (((n - q : Nat) : Int) < 6) = true := decide_eq_true (by omega)
      go_wp2_with (first
          | go_skip
          | ((with_reducible refine isPart ?_); refine slL q ?_ (by omega) utB szB))
      go_ret3
      exact ⟨j, _, vs, cur, EN, (by rw [← OF.out, ← LT.out]; rfl), ⟨hj, by rw [← OF.out]; exact hq, (by
        rcases Nat.lt_or_ge j rs.length with h | h
        · refine .inr ?_
          obtain ⟨r, hr⟩ : ∃ r, rs[j]? = some r := ⟨_, List.getElem?_eq_getElem h⟩
          rw [offL_succ hr, ← OF.out]
          omega
        · exact .inl (by omega))⟩, R.out, VS.out, H.out⟩
    · have hd6 : decide (((n - q : Nat) : Int) < 6) = false := decide_eq_false (by omega)
      have hjl : j < rs.length := by
        rcases Nat.lt_or_ge j rs.length with h | h
        · exact h
        · exfalso
          have h1 : j = rs.length := by omega
          have h2 := OF.out
          rw [h1, offL_all] at h2
          have h3 := hn.out
          omega
      obtain ⟨r, hr⟩ : ∃ r, rs[j]? = some r := ⟨_, List.getElem?_eq_getElem hjl⟩
      obtain ⟨L, hL⟩ : ∃ L, r.length = L := ⟨_, rfl⟩
      have hLb : 0 < L ∧ L ≤ 2000 := by rw [← hL]; exact hR.out r (List.mem_of_getElem? hr)
      obtain ⟨hL0, hL1⟩ := hLb
      have HOS := Lib.hid (offL_succ hr)
      have HLS := Lib.hid (lastL_succ hr)
      have HTK := Lib.hid (show rs.take (j + 1) = rs.take j ++ [r] by rw [List.take_add_one, hr]; rfl)
      obtain ⟨p, t, hlog, hp⟩ := log_at hr
      rw [← OF.out] at hp
      have hltr := lastL_rng rs j (by omega)
      rw [← LT.out] at hlog hltr
      obtain ⟨hlt0, hlt1⟩ := hltr
      obtain ⟨gx, ox, _, rfl, _, _⟩ := V.out.at_ (by omega)
      have hqc : q < c := by omega
      have HB : ∀ (i : Nat) (x : Int), (recB lt r)[i]? = some x → q + i < n → ∀ W, Hld m W → W.cell? ⟨gx, ox + q + i, none⟩ = some (.int .u8 x) := fun i x hx hi W hW => by
        obtain ⟨g, o, e1, _, h⟩ := V.out.cells hW (by omega)
        cases e1
        rw [Nat.add_assoc]
        exact h (q + i) _ (bv_at (by rw [hlog]; exact at_log hp hx hi))
      have X0 := Lib.hid (HB 0 _ (recB_0 lt r) (by omega))
      have X1 := Lib.hid (HB 1 _ (recB_1 lt r) (by omega))
      have VR0 := V.out.sub (lo := q) (hi := n) (by omega) (by omega) hqc
      rw [bv_part, hlog] at VR0
      have VR := Lib.hid VR0
      have HLOG := Lib.hid hlog
      have HP := Lib.hid hp
      have HL := Lib.hid hL
      clear HB VR0 hlog hp hr
      go_wp2_with (first
          | go_skip
          | ((with_reducible refine isPart ?_); refine slL q ?_ (by omega) utB szB))
      rw [hL] at X0 X1
      rw [adv_some hqc]
      obtain ⟨oq, hoq⟩ : ∃ oq, ox + q = oq := ⟨_, rfl⟩
      obtain ⟨nr, hnr⟩ : ∃ nr, n - q = nr := ⟨_, rfl⟩
      obtain ⟨cr, hcr⟩ : ∃ cr, c - q = cr := ⟨_, rfl⟩
      rw [hoq] at X0 X1 VR ⊢
      rw [hnr] at VR ⊢
      rw [hcr] at VR ⊢
      have hnr6 : 6 ≤ nr := by omega
      have hnrc : nr ≤ cr := by omega
      have hnrn : nr ≤ n := by omega
      have p0 : 0 < nr := by omega
      have p1 : (1 : Int) < nr := by omega
      have p1n : 1 < nr := by omega
      have HNR := Lib.hid hnr
      clear hoq hnr hcr
      have hor := or_len hL1
      have e256 : ((L : Int) / 256) * 256 % 18446744073709551616 = ((L : Int) / 256) * 256 := Int.emod_eq_of_lt (by omega) (by omega)
      have w256 : IntKind.i64.wrap ((L : Int) / 256 * 256) = (L : Int) / 256 * 256 := IntWalk.i64_in _ (by omega)
      have w0_ : IntKind.i64.wrap ((L : Int) / 256) = (L : Int) / 256 := IntWalk.i64_in _ (by omega)
      have w1_ : IntKind.i64.wrap ((L : Int) % 256) = (L : Int) % 256 := IntWalk.i64_in _ (by omega)
      refine wp_region_Y 10 [.c (.slice (some ⟨gx, oq, none⟩) nr cr), .c (.pointer (some ⟨gx, oq, none⟩)), .c (.int .u8 ((L : Int) / 256)), .c (.int .i64 ((L : Int) / 256)), .c (.int .i64 ((L : Int) / 256 * 256)), .c (.slice (some ⟨gx, oq, none⟩) nr cr), .c (.pointer (some ⟨gx, oq + 1, none⟩)), .c (.int .u8 ((L : Int) % 256)), .c (.int .i64 ((L : Int) % 256)), .c (.int .i64 L)] (rowE (.slice Bv j cv) 44 cur ++ (EN ++ m)) H (by (repeat (first | exact List.Sublist.refl _ | refine List.Sublist.cons_cons _ ?_ | refine List.Sublist.append_left ?_ _ | refine List.Sublist.trans ?_ (List.sublist_append_right _ _) | refine List.Sublist.cons _ ?_))) (by kernel_rfl) (by kernel_rfl) (by kernel_rfl) ?_
      simp only [List.take_succ_cons, List.take_zero, List.drop_succ_cons, List.drop_zero]
      refine wpY_c (by rfl) (by (first | exact wanted_none rfl | exact wanted_some rfl rfl)) (by intro W _; first | (go_simp; rfl) | (go_simp; done) | (trace_state; fail)) ?_
      (simp only [Act.put, List.setIfInBounds_toArray, List.set_cons_succ, List.set_cons_zero])
      refine wpY_c (by rfl) (by (first | exact wanted_none rfl | exact wanted_some rfl rfl)) (by intro W _; first | (go_simp; rfl) | (go_simp; done) | (trace_state; fail)) ?_
      (simp only [Act.put, List.setIfInBounds_toArray, List.set_cons_succ, List.set_cons_zero])
      refine wpY_loadX (by rfl) (by rfl) (by (first | exact wanted_none rfl | exact wanted_some rfl rfl)) kByt_ (by rfl) (by intro W HW; have h := X0.out W (HW.out.hld fun z hz => List.mem_append_right _ (List.mem_append_right _ hz)); simpa using h) ?_
      (simp only [Act.put, List.setIfInBounds_toArray, List.set_cons_succ, List.set_cons_zero])
      refine wpY_c (by rfl) (by (first | exact wanted_none rfl | exact wanted_some rfl rfl)) (by intro W _; first | (go_simp; rfl) | (go_simp; done) | (trace_state; fail)) ?_
      (simp only [Act.put, List.setIfInBounds_toArray, List.set_cons_succ, List.set_cons_zero])
      refine wpY_c (by rfl) (by (first | exact wanted_none rfl | exact wanted_some rfl rfl)) (by intro W _; first | (go_simp; rfl) | (go_simp; done) | (trace_state; fail)) ?_
      (simp only [Act.put, List.setIfInBounds_toArray, List.set_cons_succ, List.set_cons_zero])
      refine wpY_c (by rfl) (by (first | exact wanted_none rfl | exact wanted_some rfl rfl)) (by intro W _; first | (go_simp; rfl) | (go_simp; done) | (trace_state; fail)) ?_
      (simp only [Act.put, List.setIfInBounds_toArray, List.set_cons_succ, List.set_cons_zero])
      refine wpY_c (by rfl) (by (first | exact wanted_none rfl | exact wanted_some rfl rfl)) (by intro W _; first | (go_simp; rfl) | (go_simp; done) | (trace_state; fail)) ?_
      (simp only [Act.put, List.setIfInBounds_toArray, List.set_cons_succ, List.set_cons_zero])
      refine wpY_loadX (by rfl) (by rfl) (by (first | exact wanted_none rfl | exact wanted_some rfl rfl)) kByt_ (by rfl) (by intro W HW; have h := X1.out W (HW.out.hld fun z hz => List.mem_append_right _ (List.mem_append_right _ hz)); simpa using h) ?_
      (simp only [Act.put, List.setIfInBounds_toArray, List.set_cons_succ, List.set_cons_zero])
      refine wpY_c (by rfl) (by (first | exact wanted_none rfl | exact wanted_some rfl rfl)) (by intro W _; first | (go_simp; rfl) | (go_simp; done) | (trace_state; fail)) ?_
      (simp only [Act.put, List.setIfInBounds_toArray, List.set_cons_succ, List.set_cons_zero])
      refine wpY_c (by rfl) (by (first | exact wanted_none rfl | exact wanted_some rfl rfl)) (by intro W _; first | (go_simp; rfl) | (go_simp; done) | (trace_state; fail)) ?_
      (simp only [Act.put, List.setIfInBounds_toArray, List.set_cons_succ, List.set_cons_zero])
      refine wpY_nil ?_
      clear H
      intro _ H
      have hd2 : decide ((2000 : Int) < L) = false := decide_eq_false (by omega)
      have w6 : IntKind.i64.wrap (6 + (L : Int)) = 6 + (L : Int) := IntWalk.i64_in _ (by omega)
      by_cases hw : nr < 6 + L
      · have hdw : decide ((nr : Int) < 6 + (L : Int)) = true := decide_eq_true (by omega)
        go_wp2_with (first
            | go_skip)
        go_ret3
        exact ⟨j, _, vs, cur, EN, (by rw [← OF.out, ← LT.out]; rfl), ⟨hj, by rw [← OF.out]; exact hq, (by
          have h1 := HOS.out
          have h2 := HNR.out
          have h3 := OF.out
          have h4 := HL.out
          exact .inr (by omega))⟩, R.out, VS.out, H.out⟩
      · have hdw : decide ((nr : Int) < 6 + (L : Int)) = false := decide_eq_false (by omega)
        go_wp2_with (first
            | go_skip)
        have e2L : 2 + L - 2 = L := by omega
        have hq6 : q + (6 + L) ≤ n := by have := HNR.out; omega
        have hrb : (recB lt r).length = 6 + L := by rw [recB_len, HL.out]
        have VREC : Hid (VIn m 5 (some ⟨gx, oq + 2, none⟩) L (cr - 2) (bv r)) := Lib.hid (by
          have h := VR.out.sub (lo := 2) (hi := 2 + L) (by omega) (by omega) (by omega)
          rw [bv_part, part_log HP.out (by rw [hrb]; omega) (by omega), ← HL.out, recB_rec, HL.out, e2L] at h
          exact h)
        have VSUM : Hid (VIn m 5 (some ⟨gx, oq + (2 + L), none⟩) 4 (cr - (2 + L)) (bv (be4 (sumL lt r)))) := Lib.hid (by
          have h := VR.out.sub (lo := 2 + L) (hi := 6 + L) (by omega) (by omega) (by omega)
          rw [bv_part, part_log HP.out (by rw [hrb]; omega) (by omega), ← HL.out, recB_sum, HL.out, show 6 + L - (2 + L) = 4 by omega] at h
          exact h)
        have hML : ∀ z ∈ m, z ∈ rowE (.slice Bv j cv) 44 cur ++ (EN ++ m) := fun z hz => List.mem_append_right _ (List.mem_append_right _ hz)
        go_at_call 26
        refine Calls.mono (sum_any lt r (some ⟨gx, oq + 2, none⟩) L (cr - 2) w0 _ _ H (Lib.hid (VREC.out.mono hML)) ⟨hL0, hL1⟩ hlt0 hlt1) ?_
        rintro _ _ ⟨rfl, h2⟩
        replace H := Lib.hid h2
        have hsr : 0 ≤ sumL lt r ∧ sumL lt r < 4294967296 := crc_range _
        obtain ⟨s1, hs1⟩ : ∃ s1, sumL lt r = s1 := ⟨_, rfl⟩
        rw [hs1] at VSUM hsr ⊢
        have HS1 := Lib.hid hs1
        clear h2 hs1 hrb
        simp only [e2L]
        go_wp2_with (first
            | go_skip)
        have w2L : IntKind.i64.wrap (2 + (L : Int)) = 2 + (L : Int) := IntWalk.i64_in _ (by omega)
        refine wp_region_Y 9 [.c (.slice (some ⟨gx, oq, none⟩) nr cr), .c (.int .i64 L), .c (.int .i64 (2 + (L : Int))), .c (.int .i64 L), .c (.int .i64 (6 + (L : Int))), .c (.slice (some ⟨gx, oq + (2 + L), none⟩) (6 + L - (2 + L)) (cr - (2 + L))), .c (.int .u32 s1), .y, .y] (rowE (.slice Bv j cv) 44 cur ++ (EN ++ m)) H (by (repeat (first | exact List.Sublist.refl _ | refine List.Sublist.cons_cons _ ?_ | refine List.Sublist.append_left ?_ _ | refine List.Sublist.trans ?_ (List.sublist_append_right _ _) | refine List.Sublist.cons _ ?_))) (by kernel_rfl) (by kernel_rfl) (by kernel_rfl) ?_
        simp only [List.take_succ_cons, List.take_zero, List.drop_succ_cons, List.drop_zero]
        refine wpY_c (by rfl) (by (first | exact wanted_none rfl | exact wanted_some rfl rfl)) (by intro W _; first | (go_simp; rfl) | (go_simp; done) | (trace_state; fail)) ?_
        (simp only [Act.put, List.setIfInBounds_toArray, List.set_cons_succ, List.set_cons_zero])
        refine wpY_c (by rfl) (by (first | exact wanted_none rfl | exact wanted_some rfl rfl)) (by intro W _; first | (go_simp; rfl) | (go_simp; done) | (trace_state; fail)) ?_
        (simp only [Act.put, List.setIfInBounds_toArray, List.set_cons_succ, List.set_cons_zero])
        refine wpY_c (by rfl) (by (first | exact wanted_none rfl | exact wanted_some rfl rfl)) (by intro W _; first | (go_simp; rfl) | (go_simp; done) | (trace_state; fail)) ?_
        (simp only [Act.put, List.setIfInBounds_toArray, List.set_cons_succ, List.set_cons_zero])
        refine wpY_c (by rfl) (by (first | exact wanted_none rfl | exact wanted_some rfl rfl)) (by intro W _; first | (go_simp; rfl) | (go_simp; done) | (trace_state; fail)) ?_
        (simp only [Act.put, List.setIfInBounds_toArray, List.set_cons_succ, List.set_cons_zero])
        refine wpY_c (by rfl) (by (first | exact wanted_none rfl | exact wanted_some rfl rfl)) (by intro W _; first | (go_simp; rfl) | (go_simp; done) | (trace_state; fail)) ?_
        (simp only [Act.put, List.setIfInBounds_toArray, List.set_cons_succ, List.set_cons_zero])
        refine wpY_slLH2 (2 + L) (6 + L) (by rfl) (by omega) (by omega) (by omega) utB szB (by rfl) (by rfl) (by rfl) (by rfl) (by (first | exact wanted_none rfl | exact wanted_some rfl rfl)) ?_
        (simp only [Act.put, List.setIfInBounds_toArray, List.set_cons_succ, List.set_cons_zero])
        refine wpY_c (by rfl) (by (first | exact wanted_none rfl | exact wanted_some rfl rfl)) (by intro W _; first | (go_simp; rfl) | (go_simp; done) | (trace_state; fail)) ?_
        (simp only [Act.put, List.setIfInBounds_toArray, List.set_cons_succ, List.set_cons_zero])
        refine wpY_y (by rfl) (by (first | exact wanted_none rfl | exact wanted_some rfl rfl)) (fun G F W HF hG => ?_)
        go_simp
        unfold upY
        refine Calls.mono (lfour_any s1 w0 W _ HF hsr.1 hsr.2) ?_
        rintro _ W2 ⟨g4, rfl, h2⟩
        refine ⟨_, rfl, hG _ _ ((g4, 5, bv (be4 s1)) :: (rowE (.slice Bv j cv) 44 cur ++ (EN ++ m))) h2 (by (repeat (first | exact List.Sublist.refl _ | refine List.Sublist.cons_cons _ ?_ | refine List.Sublist.append_left ?_ _ | refine List.Sublist.trans ?_ (List.sublist_append_right _ _) | refine List.Sublist.cons _ ?_))) ?_⟩
        clear HF hG h2
        (simp only [Act.put, List.setIfInBounds_toArray, List.set_cons_succ, List.set_cons_zero])
        refine wpY_y (by rfl) (by (first | exact wanted_none rfl | exact wanted_some rfl rfl)) (fun G F W HF hG => ?_)
        go_simp
        unfold upY
        (try simp only [show 6 + L - (2 + L) = 4 by omega])
        refine Calls.mono (eqBy_any (some ⟨gx, oq + (2 + L), none⟩) (some ⟨g4, 0, none⟩) 4 (cr - (2 + L)) 4 (be4 s1) (be4 s1) w0 W _ HF (Lib.hid (VSUM.out.mono fun z hz => .tail _ (List.mem_append_left _ (hML z hz)))) (Lib.hid ⟨rfl, Nat.le_refl _, by unfold maxLen; omega, fun _ => ⟨g4, 0, bv (be4 s1), rfl, .head _, fun j u hu => by rw [Nat.zero_add]; exact hu⟩⟩) (by omega)) ?_
        rintro _ W2 ⟨rfl, h2⟩
        refine ⟨_, rfl, hG _ _ ((g4, 5, bv (be4 s1)) :: (rowE (.slice Bv j cv) 44 cur ++ (EN ++ m))) h2 (by (repeat (first | exact List.Sublist.refl _ | refine List.Sublist.cons_cons _ ?_ | refine List.Sublist.append_left ?_ _ | refine List.Sublist.trans ?_ (List.sublist_append_right _ _) | refine List.Sublist.cons _ ?_))) ?_⟩
        clear HF hG h2
        (simp only [Act.put, List.setIfInBounds_toArray, List.set_cons_succ, List.set_cons_zero])
        refine wpY_nil ?_
        clear H
        intro _ H
        have hdt : decide (be4 s1 = be4 s1) = true := decide_eq_true rfl
        replace H := Lib.hid H.out.drop
        clear X0 X1 VR hor
        go_wp2_with (first
            | go_skip
            | ((with_reducible refine isSlcK 0 ?_); refine bsA 5 [] 0 H ?_; clear H; intro ge _ H)
            | ((with_reducible refine isSlcK 1 ?_); refine bsA 44 [.slice B3 L c3] 1 H ?_; clear H; intro gz _ H)
            | ((with_reducible refine isApp ?_); first | (refine wpList_appG [] (rowE (.slice Bv j cv) 44 cur ++ (EN ++ m)) H (Lib.hid (RowV.lit (g := ge) (n := 0) (xs := []) rfl (by omega))) iByt (by decide) Try.underlying44 (Lib.hid (by intro j_ u_ hu_; obtain ⟨g_, o_, e_, _, h_⟩ := VREC.out.cells (H.out.hld fun z hz => .tail _ (hML z hz)) hL0; cases e_; rw [Addr.add_lit]; exact h_ j_ u_ hu_)) ?_ (m := L) (by rw [bv_len, HL.out, Nat.mul_one]) (bv_one r) hL0 (by simp only [maxLen]; omega) (by omega); clear H; intro v3 cur3 _ R3 H; simp only [Nat.zero_add, List.nil_append] at R3 H; obtain ⟨B3, c3, rfl, _⟩ := R3.out.shape) | (refine wpList_appH ((gz, 44, [.slice B3 L c3]) :: rowE (.slice B3 L c3) 5 cur3) (EN ++ m) H R (by rfl) iByts (by decide) Try.underlying49 (by rfl) (by rfl) (by rfl) (by rfl) (.head _) (by rfl) (by rfl) (by omega) (by simp only [maxLen]; omega) (by omega) ?_; clear H; intro v5 cur5 _ R5 H; simp only [List.cons_append] at H)))
        obtain ⟨B5, c5, rfl, _⟩ := R5.out.shape
        have VS' : Hid (VBs (rowE (.slice B3 L c3) 5 cur3 ++ EN) (rs.take (j + 1)) (vs ++ [.slice B3 L c3])) := Lib.hid (by
          rw [HTK.out]
          exact All2.snoc (VS.out.mono fun _ _ h => h.mono fun z hz => List.mem_append_right _ hz) ((VB.of_row R3.out).mono fun z hz => List.mem_append_left _ hz))
        have H' := Lib.hid (H.out.drop.perm scan_move.symm)
        have hos := HOS.out
        have hls := HLS.out
        have hof := OF.out
        have hlto := LT.out
        have hhl := HL.out
        have hs1 := HS1.out
        go_roundw
        case rel => exact ⟨j + 1, q + 6 + L, s1, _, vs ++ [.slice B3 L c3], cur5, rowE (.slice B3 L c3) 5 cur3 ++ EN, rfl, by go_num, rfl, by omega, by omega, Lib.hid (by omega), Lib.hid (by rw [hls, ← hlto, hs1]), R5, VS', H'⟩
        case measure => simp [intOf]; omega
end Go.Proofs.Ythepafendopfhaa

namespace Go.Proofs.Ythepafendopfhaa
open Go.RowKit
set_option linter.unusedVariables false
set_option maxRecDepth 100000

set_option maxHeartbeats 4000000 in
theorem LRead_any (rs : List (List Int)) (A : Option Addr) (n c : Nat) (w0 w : World) (m : Ents) (H : Hid (Hp w0 w m)) (V : Hid (VIn m 5 A n c (bv ((logB rs).1.take n)))) (hR : Hid (∀ r ∈ rs, 0 < r.length ∧ r.length ≤ 2000)) (hrl : rs.length ≤ 100) (hn : Hid (n ≤ (logB rs).1.length)) (hn1 : n ≤ 100000) :
    Calls Try.prog 15 #[.slice A n c] w fun e w' => ∃ (k : Nat) (v : Value) (vs cur : List Value) (EN : Ents), e = .returned (.tuple #[v, .int .i64 (offL rs k)]) ∧ ScanP rs n k ∧ RowV 1 v k vs cur ∧ VBs EN (rs.take k) vs ∧ Hp w0 w' (rowE v 44 cur ++ (EN ++ m)) := by
  go_enter Try.func15, Try.ntmps15
  go_wp2_with (first
      | go_skip)
  go_at_call 24
  refine Calls.mono (scan_any rs A n c w0 _ _ H V hR hrl hn hn1) ?_
  rintro _ _ ⟨k, v, vs, cur, EN, rfl, hS, hRV, hVS, h2⟩
  replace H := Lib.hid h2
  have RV := Lib.hid hRV
  have VS := Lib.hid hVS
  have SP := Lib.hid hS
  clear h2 hRV hVS hS
  go_wp2_with (first
      | go_skip)
  go_ret2
  exact ⟨k, v, vs, cur, EN, rfl, SP.out, RV.out, VS.out, H.out⟩
theorem ScanP.all {rs : List (List Int)} {k : Nat} (h : ScanP rs (logB rs).1.length k) : k = rs.length := by
  rcases h.out_ with h1 | h1
  · exact h1
  · have := offL_le rs (k + 1)
    omega
set_option maxHeartbeats 8000000 in
theorem LAdd_any (rs : List (List Int)) (r : List Int) (A AR : Option Addr) (n c L cr : Nat) (w0 w : World) (m : Ents) (H : Hid (Hp w0 w m)) (V0 : Hid (VIn m 5 A n c (bv (logB rs).1))) (VR : Hid (VIn m 5 AR L cr (bv r))) (hR : Hid (∀ r ∈ rs, 0 < r.length ∧ r.length ≤ 2000)) (hrl : rs.length ≤ 100) (hL : 0 < L ∧ L ≤ 2000) (hnL : n + 6 + L ≤ 100000) :
    Calls Try.prog 12 #[.slice A n c, .slice AR L cr] w fun e w' => ∃ (v : Value) (cur : List Value), e = .returned (.tuple #[v, .int .i64 0]) ∧ RowV 1 v (n + 6 + L) (bv (logB (rs ++ [r])).1) cur ∧ Hp w0 w' (rowE v 5 cur ++ m) := by
  have hnl : (logB rs).1.length = n := by rw [← bv_len]; exact V0.out.len
  have hrL : r.length = L := by rw [← bv_len]; exact VR.out.len
  have hnc := V0.out.nc
  have V : Hid (VIn m 5 A n c (bv ((logB rs).1.take n))) := Lib.hid (by rw [List.take_of_length_le (by omega)]; exact V0.out)
  have hn : Hid (n ≤ (logB rs).1.length) := Lib.hid (by omega)
  have hn1 : n ≤ 100000 := by omega
  obtain ⟨hL0, hL1⟩ := hL
  have HNL := Lib.hid hnl
  have HRL := Lib.hid hrL
  have hlr := lastL_rng rs rs.length (Nat.le_refl _)
  obtain ⟨lt, hlt⟩ : ∃ lt, lastL rs rs.length = lt := ⟨_, rfl⟩
  rw [hlt] at hlr
  have HLT := Lib.hid hlt
  have hd1 : decide ((2000 : Int) < L) = false := decide_eq_false (by omega)
  clear hnl hrL hlt
  go_enter Try.func12, Try.ntmps12
  go_wp2_with (first
      | go_skip)
  go_at_call 24
  refine Calls.mono (scan_any rs A n c w0 _ _ H V hR hrl hn hn1) ?_
  rintro _ _ ⟨k, v, vs, cur, EN, rfl, hS, hRV, hVS, h2⟩
  replace H := Lib.hid h2
  have RV := Lib.hid hRV
  have VS := Lib.hid hVS
  have SP := Lib.hid hS
  clear h2 hRV hVS hS
  have hkl : k = rs.length := ScanP.all (by have h := SP.out; rw [HNL.out]; exact h)
  have hon : offL rs k = n := by rw [hkl, offL_all, HNL.out]
  have hll : lastL rs k = lt := by rw [hkl, HLT.out]
  rw [hon, hll]
  replace H := Lib.hid (H.out.sub (List.Sublist.trans (List.sublist_append_right _ _) (List.sublist_append_right (rowE v 44 cur) _)))
  clear RV VS SP hkl hon hll
  have hd2 : decide ((100000 : Int) < (n : Int) + 6 + L) = false := decide_eq_false (by omega)
  obtain ⟨ga2, oa2, _, rfl, _, _⟩ := VR.out.at_ hL0
  rcases Nat.eq_zero_or_pos n with h0 | h0
  · subst h0
    have hbs : (logB rs).1 = [] := List.eq_nil_of_length_eq_zero HNL.out
    have HBS := Lib.hid hbs
    clear hbs
    go_wp2_with (first
        | go_skip
        | ((with_reducible refine isPart ?_); refine slH 0 ?_ (by omega) utB szB)
        | ((with_reducible refine isSlcK 0 ?_); refine bsA 5 [] 0 H ?_; clear H; intro ge _ H)
        | ((with_reducible refine isSlcK 2 ?_); refine bsA 5 [.int .u8 ((L : Int) / 256), .int .u8 ((L : Int) % 256)] 2 H ?_; clear H; intro g2 _ H)
        | ((with_reducible refine isApp ?_); first | (refine wpList_app0 (Lib.hid (RowV.lit (g := ge) (n := 0) (xs := []) rfl (by omega))) iByt Try.underlying44 ?_) | (refine wpList_appH [(g2, 5, _)] m H (Lib.hid (RowV.lit (g := ge) (n := 0) (xs := []) rfl (by omega))) (by rfl) iByt (by decide) Try.underlying44 (by rfl) (by rfl) (by rfl) (by rfl) (.head _) (by rfl) (by rfl) (by omega) (by simp only [maxLen]; omega) (by omega) ?_; clear H; intro v2 cur2 _ R2 H; simp only [Nat.zero_add, List.cons_append, List.nil_append] at R2 H; obtain ⟨B2, c2, rfl, _⟩ := R2.out.shape) | (refine wpList_appG [(g2, 5, _)] m H R2 iByt (by decide) Try.underlying44 (Lib.hid (by intro j_ u_ hu_; obtain ⟨g_, o_, e_, _, h_⟩ := VR.out.cells (H.out.hld fun z hz => by simp [hz]) hL0; cases e_; rw [Addr.add_lit]; exact h_ j_ u_ hu_)) ?_ (m := L) (by rw [bv_len, HRL.out, Nat.mul_one]) (bv_one r) hL0 (by simp only [maxLen]; omega) (by omega); clear H; intro v3 cur3 _ R3 H; simp only [List.cons_append, List.nil_append] at H; obtain ⟨B3, c3, rfl, _⟩ := R3.out.shape)))
    go_at_call 26
    refine Calls.mono (sum_any lt r (some ⟨ga2, oa2, none⟩) L cr w0 _ _ H (Lib.hid (VR.out.mono fun z hz => by simp [hz])) ⟨hL0, hL1⟩ hlr.1 hlr.2) ?_
    rintro _ _ ⟨rfl, h2⟩
    replace H := Lib.hid h2
    clear h2
    go_wp2_with (first
        | go_skip)
    go_at_call 25
    refine Calls.mono (lfour_any (sumL lt r) w0 _ _ H (crc_range _).1 (crc_range _).2) ?_
    rintro _ _ ⟨g4, rfl, h2⟩
    replace H := Lib.hid h2
    clear h2
    go_wp2_with (first
        | go_skip
        | ((with_reducible refine isApp ?_); refine wpList_appH [(g4, 5, _), (g2, 5, _)] m H R3 (by rfl) iByt (by decide) Try.underlying44 (by rfl) (by rfl) (by rfl) (by rfl) (.head _) (by rfl) (by rfl) (by omega) (by simp only [maxLen]; omega) (by omega) ?_; clear H; intro v4 cur4 _ R4 H; simp only [List.cons_append, List.nil_append] at H))
    go_ret2
    refine ⟨v4, cur4, rfl, ?_, H.out.drop.drop⟩
    have h := R4.out
    rw [logB_snoc, ← lastL_all, HLT.out]
    unfold recB
    rw [bv_app, bv_app, bv_app, HRL.out, HBS.out]
    have e : 0 + 6 + L = 2 + L + 4 := by omega
    rw [e]
    rw [List.append_assoc] at h
    simpa [bv, lenB] using h
  · obtain ⟨ga, oa, _, rfl, _, _⟩ := V0.out.at_ h0
    go_wp2_with (first
        | go_skip
        | ((with_reducible refine isPart ?_); refine slH n ?_ (by omega) utB szB)
        | ((with_reducible refine isSlcK 0 ?_); refine bsA 5 [] 0 H ?_; clear H; intro ge _ H)
        | ((with_reducible refine isSlcK 2 ?_); refine bsA 5 [.int .u8 ((L : Int) / 256), .int .u8 ((L : Int) % 256)] 2 H ?_; clear H; intro g2 _ H)
        | ((with_reducible refine isApp ?_); first | (refine wpList_appG [] m H (Lib.hid (RowV.lit (g := ge) (n := 0) (xs := []) rfl (by omega))) iByt (by decide) Try.underlying44 (Lib.hid (by intro j_ u_ hu_; obtain ⟨g_, o_, e_, _, h_⟩ := V0.out.cells (H.out.hld fun z hz => by simp [hz]) h0; cases e_; rw [Addr.add_lit]; exact h_ j_ u_ hu_)) ?_ (m := n) (by rw [bv_len, HNL.out, Nat.mul_one]) (bv_one (logB rs).1) h0 (by simp only [maxLen]; omega) (by omega); clear H; intro v1 cur1 _ R1 H; simp only [Nat.zero_add, List.nil_append] at R1 H; obtain ⟨B1, c1, rfl, _⟩ := R1.out.shape) | (refine wpList_appH [(g2, 5, _)] m H R1 (by rfl) iByt (by decide) Try.underlying44 (by rfl) (by rfl) (by rfl) (by rfl) (.head _) (by rfl) (by rfl) (by omega) (by simp only [maxLen]; omega) (by omega) ?_; clear H; intro v2 cur2 _ R2 H; simp only [List.cons_append, List.nil_append] at R2 H; obtain ⟨B2, c2, rfl, _⟩ := R2.out.shape) | (refine wpList_appG [(g2, 5, _)] m H R2 iByt (by decide) Try.underlying44 (Lib.hid (by intro j_ u_ hu_; obtain ⟨g_, o_, e_, _, h_⟩ := VR.out.cells (H.out.hld fun z hz => by simp [hz]) hL0; cases e_; rw [Addr.add_lit]; exact h_ j_ u_ hu_)) ?_ (m := L) (by rw [bv_len, HRL.out, Nat.mul_one]) (bv_one r) hL0 (by simp only [maxLen]; omega) (by omega); clear H; intro v3 cur3 _ R3 H; simp only [List.cons_append, List.nil_append] at H; obtain ⟨B3, c3, rfl, _⟩ := R3.out.shape)))
    go_at_call 26
    refine Calls.mono (sum_any lt r (some ⟨ga2, oa2, none⟩) L cr w0 _ _ H (Lib.hid (VR.out.mono fun z hz => by simp [hz])) ⟨hL0, hL1⟩ hlr.1 hlr.2) ?_
    rintro _ _ ⟨rfl, h2⟩
    replace H := Lib.hid h2
    clear h2
    go_wp2_with (first
        | go_skip)
    go_at_call 25
    refine Calls.mono (lfour_any (sumL lt r) w0 _ _ H (crc_range _).1 (crc_range _).2) ?_
    rintro _ _ ⟨g4, rfl, h2⟩
    replace H := Lib.hid h2
    clear h2
    go_wp2_with (first
        | go_skip
        | ((with_reducible refine isApp ?_); refine wpList_appH [(g4, 5, _), (g2, 5, _)] m H R3 (by rfl) iByt (by decide) Try.underlying44 (by rfl) (by rfl) (by rfl) (by rfl) (.head _) (by rfl) (by rfl) (by omega) (by simp only [maxLen]; omega) (by omega) ?_; clear H; intro v4 cur4 _ R4 H; simp only [List.cons_append, List.nil_append] at H))
    go_ret2
    refine ⟨v4, cur4, rfl, ?_, H.out.drop.drop⟩
    have h := R4.out
    rw [logB_snoc, ← lastL_all, HLT.out]
    unfold recB
    rw [bv_app, bv_app, bv_app, HRL.out]
    have e : n + 6 + L = n + 2 + L + 4 := by omega
    rw [e]
    rw [List.append_assoc] at h
    simpa [bv, lenB] using h
end Go.Proofs.Ythepafendopfhaa

namespace Go.Proofs.Ythepafendopfhaa
open Go.RowKit
set_option linter.unusedVariables false
set_option maxRecDepth 100000

/-- A message that lies in memory. -/
structure MsE where
  x : MsP
  B : Option Addr
  n : Nat
  c : Nat
def MsE.cells (e : MsE) : List Value := e.x.v e.B e.n e.c
theorem MsE.len (e : MsE) : e.cells.length = 6 := rfl
def rsOf (es : List MsE) : List (List Int) := es.map fun e => wrB e.x
def EsOk (E : Ents) (es : List MsE) : Prop := ∀ e ∈ es, e.x.fit ∧ e.x.frm ≠ e.x.dst ∧ RowIn E 78 2 (.slice e.B e.n e.c) e.n (flat CeP.cells e.x.cells)
theorem EsOk.mono {E E' : Ents} {es : List MsE} (h : EsOk E es) (hs : ∀ z ∈ E, z ∈ E') : EsOk E' es := fun e he => ⟨(h e he).1, (h e he).2.1, (h e he).2.2.mono hs⟩
theorem EsOk.snoc {E : Ents} {es : List MsE} {e : MsE} (h : EsOk E es) (he : e.x.fit ∧ e.x.frm ≠ e.x.dst ∧ RowIn E 78 2 (.slice e.B e.n e.c) e.n (flat CeP.cells e.x.cells)) : EsOk E (es ++ [e]) := by
  intro d hd
  rcases List.mem_append.1 hd with hd | hd
  · exact h d hd
  · rw [List.mem_singleton] at hd
    subst hd
    exact he
def endsL (es : List MsE) : List Int := (List.range (es.length + 1)).map fun j => (offL (rsOf es) j : Int)
theorem rsOf_snoc (es : List MsE) (e : MsE) : rsOf (es ++ [e]) = rsOf es ++ [wrB e.x] := by unfold rsOf; rw [List.map_append]; rfl
theorem rsOf_len (es : List MsE) : (rsOf es).length = es.length := List.length_map _
theorem rsOf_ok {E : Ents} {es : List MsE} (h : EsOk E es) : ∀ r ∈ rsOf es, 0 < r.length ∧ r.length ≤ 2000 := by
  intro r hr
  obtain ⟨e, he, rfl⟩ := List.mem_map.1 hr
  have := (h e he).1.cl
  rw [wrB_len]
  omega
theorem offL_bd {E : Ents} {es : List MsE} (h : EsOk E es) : ∀ j, offL (rsOf es) j ≤ 41 * j
  | 0 => Nat.le_refl _
  | j + 1 => by
    have ih := offL_bd h j
    rcases Nat.lt_or_ge j (rsOf es).length with hj | hj
    · obtain ⟨r, hr⟩ : ∃ r, (rsOf es)[j]? = some r := ⟨_, List.getElem?_eq_getElem hj⟩
      obtain ⟨e, he, rfl⟩ := List.mem_map.1 (List.mem_of_getElem? hr)
      have := (h e he).1.cl
      rw [offL_succ hr, wrB_len]
      omega
    · unfold offL at ih ⊢
      rw [List.take_of_length_le hj] at ih
      rw [List.take_of_length_le (by omega)]
      omega
theorem total_bd {E : Ents} {es : List MsE} (h : EsOk E es) : (logB (rsOf es)).1.length ≤ 41 * es.length := by
  rw [← offL_all, rsOf_len]
  exact offL_bd h _
theorem offL_snoc (es : List MsE) (e : MsE) {j : Nat} (h : j ≤ es.length) : offL (rsOf (es ++ [e])) j = offL (rsOf es) j := by
  unfold offL
  rw [rsOf_snoc, List.take_append_of_le_length (by rw [rsOf_len]; exact h)]
theorem endsL_snoc (es : List MsE) (e : MsE) : endsL (es ++ [e]) = endsL es ++ [((logB (rsOf es ++ [wrB e.x])).1.length : Int)] := by
  unfold endsL
  rw [List.length_append, List.length_singleton, List.range_succ, List.map_append]
  congr 1
  · refine List.map_congr_left fun j hj => ?_
    rw [offL_snoc es e (by have := List.mem_range.1 hj; omega)]
  · show [((offL (rsOf (es ++ [e])) (es.length + 1) : Nat) : Int)] = _
    have h1 := offL_all (rsOf (es ++ [e]))
    rw [rsOf_len, List.length_append, List.length_singleton] at h1
    rw [h1, rsOf_snoc]
theorem endsL_at (es : List MsE) {j : Nat} (h : j ≤ es.length) : (endsL es)[j]? = some (offL (rsOf es) j : Int) := by
  unfold endsL
  rw [List.getElem?_map, List.getElem?_range (by omega)]
  rfl
theorem top_perm {N C VA VE EN : Ents} {b : Nat × TypeId × List Value} : (N ++ (b :: (C ++ (VA ++ (VE ++ EN))))).Perm (b :: (VA ++ (VE ++ (N ++ (C ++ EN))))) := by
  refine List.perm_middle.trans (.cons _ ?_)
  refine (List.Perm.append_left N (List.perm_append_comm_assoc C VA _)).trans ?_
  refine (List.perm_append_comm_assoc N VA _).trans (List.Perm.append_left VA ?_)
  refine (List.Perm.append_left N (List.perm_append_comm_assoc C VE _)).trans ?_
  exact List.perm_append_comm_assoc N VE _
theorem top_perm2 {N C VA VE EN : Ents} : (VA ++ (VE ++ (N ++ (C ++ EN)))).Perm (N ++ (VA ++ (VE ++ (C ++ EN)))) := by
  refine (List.Perm.append_left VA (List.perm_append_comm_assoc VE N _)).trans ?_
  exact List.perm_append_comm_assoc VA N _
theorem top_sub {N W C VB VA VE EN : Ents} {b : Nat × TypeId × List Value} : (N ++ (b :: (C ++ (VA ++ (VE ++ EN))))).Sublist (N ++ (W ++ (b :: (C ++ (VB ++ (VA ++ (VE ++ EN))))))) := by
  refine List.Sublist.append_left ?_ _
  refine List.Sublist.trans ?_ (List.sublist_append_right W _)
  refine List.Sublist.cons_cons _ (List.Sublist.append_left ?_ _)
  exact List.sublist_append_right _ _
/-- An argument: a slice of slices of integers. -/
structure LsE where
  A : Option Addr
  n : Nat
  c : Nat
  xs : List Int
def RowsA (w : World) (A : Option Addr) (n c : Nat) (X : List LsE) : Prop := X.length = n ∧ n ≤ c ∧ c ≤ maxLen ∧ (0 < n → ∃ b o, A = some ⟨b, o, none⟩ ∧ b < w.heap.size ∧ ∀ (j : Nat) (e : LsE), X[j]? = some e → w.cell? ⟨b, o + j, none⟩ = some (.slice e.A e.n e.c)) ∧ ∀ e ∈ X, IntArg w e.A e.n e.c e.xs
theorem isSlcT (t : TypeId) {P : Program} {ops : Array Oper} {rest : List Oper} {a : Act} {w : World} {Q : Exit → Act → World → Prop} {d : Option Tmp} {ty : TypeId} {po : String} {af : Array Edge} {g : Option (Nat × Bool)} {n : Nat} {ps : Array (Nat × Operand)} (h : wpList P ops Q (⟨d, .buildSlice t n ps, ty, po, af, g⟩ :: rest) a w) : wpList P ops Q (⟨d, .buildSlice t n ps, ty, po, af, g⟩ :: rest) a w := h
theorem iIntL : InfoT Try.prog 3 1 8 := InfoT.of (z := .int .i64 0) (by kernel_rfl) (by kernel_rfl) rfl
theorem iMsgL : InfoT Try.prog 39 6 64 := InfoT.of zMsg (by kernel_rfl) rfl
end Go.Proofs.Ythepafendopfhaa

namespace Go.Proofs.Ythepafendopfhaa
open Go.RowKit
set_option linter.unusedVariables false
set_option maxRecDepth 100000

theorem utL : Try.prog.underlying 43 = some (.slice (Try.prog.elem 43)) := Try.underlying43
theorem szL : ∀ w, (Go.sizeOf (Try.prog.elem 43)).run Try.prog w = .ok 1 w := by intro w; kernel_rfl
set_option maxHeartbeats 16000000 in
theorem TopLogs_any (A : Option Addr) (n c : Nat) (X : List LsE) (cut : Int) (w : World) (hX : RowsA w A n c X) (hc1 : -9223372036854775808 ≤ cut) (hc2 : cut ≤ 9223372036854775807) :
    Calls Try.prog 4 #[.slice A n c, .int .i64 cut] w fun e w' => e = .returned (.bool true) ∧ Below w.heap.size w w' := by
  have H := Lib.hid (Hp.start (w := w) trivial)
  have HX := Lib.hid hX
  have hnc := hX.2.1
  have hcm := hX.2.2.1
  clear hX
  obtain ⟨K, hK⟩ : ∃ K : Nat, min n 12 = K := ⟨_, rfl⟩
  have hKn : K ≤ n := by omega
  have hK12 : K ≤ 12 := by omega
  have hKc : K ≤ c := by omega
  have hmin : min (n : Int) 12 = (K : Int) := by omega
  clear hK
  go_enter Try.func4, Try.ntmps4
  go_wp2_with (first
      | go_skip
      | ((with_reducible refine isSlcK 1 ?_); refine bsA 5 [.int .u8 1] 1 H ?_; clear H; intro g1 _ H))
  replace H := (show Hid (Hp w _ ((g1, 5, bv [1]) :: [])) from H)
  go_at_call 12
  refine Calls.mono (LAdd_any [] [1] none (some ⟨g1, 0, none⟩) 0 0 1 1 w _ _ H (Lib.hid ⟨rfl, Nat.le_refl _, by unfold maxLen; omega, fun h => absurd h (by omega)⟩) (Lib.hid ⟨rfl, Nat.le_refl _, by unfold maxLen; omega, fun _ => ⟨g1, 0, bv [1], rfl, .head _, fun j u hu => by rw [Nat.zero_add]; exact hu⟩⟩) (Lib.hid (fun r hr => by cases hr)) (by decide) (by omega) (by omega)) ?_
  rintro _ _ ⟨v0, cur0, rfl, hR, h2⟩
  obtain ⟨B0, c0, rfl, _⟩ := hR.shape
  replace H := Lib.hid (h2.sub (List.nil_sublist _))
  clear h2 hR
  go_wp2_with (first
      | go_skip
      | ((with_reducible refine isSlcK 1 ?_); refine bsA 3 [.int .i64 0] 1 H ?_; clear H; intro g2 _ H)
      | ((with_reducible refine isPart ?_); refine slH K ?_ (by omega) utL szL))
  have hE0 : Hid (RowV 1 (.slice (some ⟨g2, 0, none⟩) 1 1) (0 + 1) ((endsL []).map (Value.int .i64)) [.int .i64 0]) := Lib.hid (RowV.lit rfl (by omega))
  go_loopw [7, 8, 9, 43] (fun vb_ vA_ vE_ i_ wr => ∃ (i nb ka : Nat) (vb vA vE : Value) (es : List MsE) (curb curA curE : List Value) (EN : Ents), vb = vb_ ∧ vA = vA_ ∧ vE = vE_ ∧ i_ = .int .i64 i ∧ i ≤ K ∧ ka ≤ i ∧ Hid (es.length = ka) ∧ Hid (EsOk EN es) ∧ Hid (RowV 1 vb nb (bv (logB (rsOf es)).1) curb) ∧ Hid (RowV 6 vA ka (flat MsE.cells es) curA) ∧ Hid (RowV 1 vE (ka + 1) ((endsL es).map (Value.int .i64)) curE) ∧ Hid (Hp w wr (rowE vb 5 curb ++ (rowE vA 39 curA ++ (rowE vE 3 curE ++ EN))))) (fun _ _ _ i_ _ => K - (intOf i_).toNat)
  case atStart => exact ⟨0, 0, 0, .slice none 0 0, .slice none 0 0, _, [], [], [], [.int .i64 0], [], rfl, rfl, rfl, rfl, by omega, by omega, Lib.hid rfl, Lib.hid (fun e he => by cases he), Lib.hid (RowV.nil 1), Lib.hid (RowV.nil 6), hE0, H⟩
  case round =>
    clear H hE0
    obtain ⟨i, nb, ka, vb, vA, vE, es, curb, curA, curE, EN, rfl, rfl, rfl, rfl, hi, hka, HES, EO, RB, RA, RE, H⟩ := hrel
    obtain ⟨Bb, cb, rfl, _⟩ := RB.out.shape
    obtain ⟨BA, cA, rfl, _⟩ := RA.out.shape
    obtain ⟨BE, cE, rfl, _⟩ := RE.out.shape
    have hnb : nb ≤ 41 * ka := by
      have h1 := total_bd EO.out
      have h2 := RB.out.len
      rw [bv_len] at h2
      have h3 := HES.out
      omega
    by_cases hlt : i < K
    · obtain ⟨e, he⟩ : ∃ e, X[i]? = some e := ⟨_, List.getElem?_eq_getElem (by rw [HX.out.1]; omega)⟩
      obtain ⟨bx, ox, rfl, hbx, hcx⟩ := HX.out.2.2.2.1 (by omega)
      have IA := Lib.hid (HX.out.2.2.2.2 e (List.mem_of_getElem? he))
      have XC : wr.cell? ⟨bx, ox + i, none⟩ = some (.slice e.A e.n e.c) := by rw [H.out.bel.cell (p := ⟨bx, ox + i, none⟩) hbx]; exact hcx i e he
      have X0 := Lib.hid XC
      clear XC hcx he
      go_wp2_with (first
          | go_skip
          | ((with_reducible refine isLoad ?_); refine ld1X X0 ?_ (hT := kIs)))
      obtain ⟨LA, ln, lc, lxs⟩ := e
      have hln := IA.out.1
      simp only at hln
      subst hln
      go_at_call 13
      refine Calls.mono (Msg_any ⟨LA, lc, lxs⟩ w _ _ H (Lib.hid (Sd.of_arg (w := w) IA.out))) ?_
      rintro _ _ ⟨x0, Bm, nm, cm, curm, rfl, hfit, hRm, h2⟩
      replace H := Lib.hid h2
      have RM := Lib.hid hRm
      have FT0 := Lib.hid hfit
      clear h2 hRm hfit X0
      go_wp2_with (first
          | go_skip
          | ((with_reducible refine isAlloc ?_); refine alA H ?_ (hz := zMsg); clear H; intro b12 _ H)
          | ((with_reducible refine isStore ?_); (first | (refine st1A (v := .int .i64 i) H ?_ (hT := sIntG) (hu := by (repeat (first | apply Upd.head | apply Upd.tail | apply Upd.appA | assumption)))) | (refine stA H ?_ (hT := rMsg) (hu := by (repeat (first | apply Upd.head | apply Upd.tail | apply Upd.appA | assumption))))); clear H; intro _ H)
          | ((with_reducible refine isLoad ?_); refine ldA H ?_ (hT := rMsg) (hm := by (repeat (first | exact List.Mem.head _ | refine List.Mem.tail _ ?_ | refine List.mem_append_right _ ?_ | assumption)))))
      obtain ⟨xk, xf, xd, xs_, xc, xcs⟩ := x0
      have FT : Hid (⟨xk, xf, xd, i, xc, xcs⟩ : MsP).fit := Lib.hid (by
        have h := FT0.out
        exact ⟨h.k0, h.k3, h.f0, h.f3, h.d0, h.d3, (by show (0 : Int) ≤ i; omega), (by show (i : Int) ≤ 2147483647; omega), h.c0, h.c1, h.cs, h.cl, h.beat⟩)
      replace H := (show Hid (Hp w _ ((b12, 39, (⟨xk, xf, xd, i, xc, xcs⟩ : MsP).v Bm nm cm) :: (rowE (.slice Bm nm cm) 78 curm ++ (rowE (.slice Bb nb cb) 5 curb ++ (rowE (.slice BA ka cA) 39 curA ++ (rowE (.slice BE (ka + 1) cE) 3 curE ++ EN)))))) from H)
      have RMI : Hid (RowIn (rowE (.slice Bm nm cm) 78 curm) 78 2 (.slice Bm nm cm) nm (flat CeP.cells (⟨xk, xf, xd, i, xc, xcs⟩ : MsP).cells)) := Lib.hid ⟨curm, RM.out, fun z hz => hz⟩
      have hnm : nm ≤ 9 := by
        have h1 := RMI.out.len CeP.len (by decide)
        have h2 := FT.out.cl
        rw [h1] at h2
        exact h2
      by_cases hfd : xf = xd
      · go_at_call 14
        refine Calls.mono (Write_same (⟨xk, xf, xd, i, xc, xcs⟩ : MsP) _ Bm nm cm w _ _ H RMI (Lib.hid fun z hz => .tail _ (List.mem_append_left _ hz)) FT (Lib.hid hfd)) ?_
        rintro _ _ ⟨rfl, h2⟩
        replace H := Lib.hid (h2.sub (List.Sublist.trans (List.sublist_append_right _ _) (List.sublist_cons_self _ _)))
        clear h2 hfd
        go_wp2_with (first
            | go_skip)
        go_roundw
        case rel => exact ⟨i + 1, nb, ka, _, _, _, es, curb, curA, curE, EN, rfl, rfl, rfl, by go_num, by omega, by omega, HES, EO, RB, RA, RE, H⟩
        case measure => simp [intOf]; omega
      · go_at_call 14
        refine Calls.mono (Write_any (⟨xk, xf, xd, i, xc, xcs⟩ : MsP) _ Bm nm cm w _ _ H RMI (Lib.hid fun z hz => .tail _ (List.mem_append_left _ hz)) FT (Lib.hid hfd)) ?_
        rintro _ _ ⟨vw, curw, rfl, hRW, h2⟩
        obtain ⟨Bw, cw, rfl, _⟩ := hRW.shape
        replace H := Lib.hid h2
        have RW := Lib.hid hRW
        clear h2 hRW
        go_wp2_with (first
            | go_skip)
        go_at_call 12
        refine Calls.mono (LAdd_any (rsOf es) (wrB (⟨xk, xf, xd, i, xc, xcs⟩ : MsP)) Bb Bw nb cb (17 + 2 * nm) cw w _ _ H (Lib.hid ((VIn.of_row RB.out).mono fun z hz => by simp [hz])) (Lib.hid ((VIn.of_row RW.out).mono fun z hz => List.mem_append_left _ hz)) (Lib.hid (rsOf_ok EO.out)) (by rw [rsOf_len, HES.out]; omega) (by omega) (by omega)) ?_
        rintro _ _ ⟨v3, cur3, rfl, hR3, h2⟩
        obtain ⟨B3, c3, rfl, _⟩ := hR3.shape
        replace H := Lib.hid ((h2.sub top_sub).perm top_perm)
        obtain ⟨n3, hn3⟩ : ∃ n3, nb + 6 + (17 + 2 * nm) = n3 := ⟨_, rfl⟩
        rw [hn3] at H hR3 ⊢
        have R3 := Lib.hid hR3
        have HN3 := Lib.hid hn3
        have hn3b : n3 ≤ 1000 := by omega
        clear h2 hR3 RW hn3
        go_wp2_with (first
            | go_skip
            | ((with_reducible refine isLoad ?_); refine ldA H ?_ (hT := rMsg) (hm := by (repeat (first | exact List.Mem.head _ | refine List.Mem.tail _ ?_ | refine List.mem_append_right _ ?_ | assumption))))
            | ((with_reducible refine isSlcT 34 ?_); refine bsA 39 [.int .i64 xk, .int .i64 xf, .int .i64 xd, .int .i64 i, .int .u32 xc, .slice Bm nm cm] 1 H ?_; clear H; intro gz _ H)
            | ((with_reducible refine isSlcT 23 ?_); refine bsA 3 [.int .i64 n3] 1 H ?_; clear H; intro gy _ H)
            | ((with_reducible refine isApp ?_); first | (refine wpList_appH [(gz, 39, _), (b12, 39, _)] _ H RA (by rfl) iMsgL (by decide) Try.underlying34 (by rfl) (by rfl) (by rfl) (by rfl) (.head _) (by rfl) (by rfl) (by omega) (by simp only [maxLen]; omega) (by omega) ?_; clear H; intro v4 cur4 _ R4 H; simp only [List.cons_append, List.nil_append] at H; obtain ⟨B4, c4, rfl, _⟩ := R4.out.shape) | (refine wpList_appH ((gy, 3, [.int .i64 n3]) :: (gz, 39, [.int .i64 xk, .int .i64 xf, .int .i64 xd, .int .i64 i, .int .u32 xc, .slice Bm nm cm]) :: (b12, 39, (⟨xk, xf, xd, i, xc, xcs⟩ : MsP).v Bm nm cm) :: rowE (.slice B4 (ka + 1) c4) 39 cur4) (rowE (.slice B3 n3 c3) 5 cur3 ++ (rowE (.slice Bm nm cm) 78 curm ++ EN)) H RE (by rfl) iIntL (by decide) Try.underlying23 (by rfl) (by rfl) (by rfl) (by rfl) (.head _) (by rfl) (by rfl) (by omega) (by simp only [maxLen]; omega) (by omega) ?_; clear H; intro v5 cur5 _ R5 H; simp only [List.cons_append] at H; obtain ⟨B5, c5, rfl, _⟩ := R5.out.shape)))
        replace H := Lib.hid (H.out.drop.drop.drop.perm top_perm2)
        have HES' : Hid ((es ++ [(⟨(⟨xk, xf, xd, i, xc, xcs⟩ : MsP), Bm, nm, cm⟩ : MsE)]).length = ka + 1) := Lib.hid (by rw [List.length_append, HES.out]; rfl)
        have EO' : Hid (EsOk (rowE (.slice Bm nm cm) 78 curm ++ EN) (es ++ [(⟨(⟨xk, xf, xd, i, xc, xcs⟩ : MsP), Bm, nm, cm⟩ : MsE)])) := Lib.hid ((EO.out.mono fun z hz => List.mem_append_right _ hz).snoc ⟨FT.out, hfd, RMI.out.mono fun z hz => List.mem_append_left _ hz⟩)
        have RB' : Hid (RowV 1 (.slice B3 n3 c3) n3 (bv (logB (rsOf (es ++ [(⟨(⟨xk, xf, xd, i, xc, xcs⟩ : MsP), Bm, nm, cm⟩ : MsE)]))).1) cur3) := Lib.hid (by rw [rsOf_snoc]; exact R3.out)
        have RA' : Hid (RowV 6 (.slice B4 (ka + 1) c4) (ka + 1) (flat MsE.cells (es ++ [(⟨(⟨xk, xf, xd, i, xc, xcs⟩ : MsP), Bm, nm, cm⟩ : MsE)])) cur4) := Lib.hid (by
          rw [show flat MsE.cells (es ++ [(⟨(⟨xk, xf, xd, i, xc, xcs⟩ : MsP), Bm, nm, cm⟩ : MsE)]) = flat MsE.cells es ++ (⟨(⟨xk, xf, xd, i, xc, xcs⟩ : MsP), Bm, nm, cm⟩ : MsE).cells by simp [flat]]
          exact R4.out)
        have RE' : Hid (RowV 1 (.slice B5 (ka + 1 + 1) c5) (ka + 1 + 1) ((endsL (es ++ [(⟨(⟨xk, xf, xd, i, xc, xcs⟩ : MsP), Bm, nm, cm⟩ : MsE)])).map (Value.int .i64)) cur5) := Lib.hid (by
          rw [endsL_snoc, List.map_append]
          have h1 := R3.out.len
          rw [bv_len] at h1
          rw [h1, Nat.mul_one]
          exact R5.out)
        go_roundw
        case rel => exact ⟨i + 1, n3, ka + 1, _, _, _, es ++ [(⟨(⟨xk, xf, xd, i, xc, xcs⟩ : MsP), Bm, nm, cm⟩ : MsE)], cur3, cur4, cur5, rowE (.slice Bm nm cm) 78 curm ++ EN, rfl, rfl, rfl, by go_num, by omega, by omega, HES', EO', RB', RA', RE', H⟩
        case measure => simp [intOf]; omega
    · obtain rfl : i = K := by omega
      have hwn : IntKind.i64.wrap ((nb : Int) + 1) = (nb : Int) + 1 := IntWalk.i64_in _ (by omega)
      go_wp2_with (first
          | go_skip)
      go_at_call 6
      refine (below_any cut ((nb : Int) + 1) _ (by omega) hc1 hc2 (by omega)).mono ?_
      rintro _ _ ⟨rfl, rfl⟩
      obtain ⟨q, hq⟩ : ∃ q, cut % ((nb : Int) + 1) = q := ⟨_, rfl⟩
      have hq0 : 0 ≤ q := by rw [← hq]; exact Int.emod_nonneg _ (by omega)
      have hq1 : q < (nb : Int) + 1 := by rw [← hq]; exact Int.emod_lt_of_pos _ (by omega)
      rw [hq]
      clear hq
      obtain ⟨ct, rfl⟩ := Int.eq_ofNat_of_zero_le hq0
      have hct : ct ≤ nb := by omega
      clear hq0 hq1
      have hbl : (logB (rsOf es)).1.length = nb := by have h := RB.out.len; rw [bv_len] at h; omega
      have HBL := Lib.hid hbl
      clear hbl
      have VB_ := VIn.of_row (e := 5) RB.out
      have hcb : ct ≤ cb := by have := VB_.nc; omega
      have VC0 := (VB_.part (lo := 0) (hi := ct) (by omega) hct)
      rw [adv_zero, bv_part, List.drop_zero, Nat.sub_zero, Nat.sub_zero] at VC0
      have VC := Lib.hid VC0
      clear VB_ VC0
      go_wp2_with (first
          | go_skip
          | ((with_reducible refine isPart ?_); refine slH ct ?_ hcb utB szB))
      go_at_call 15
      refine Calls.mono (LRead_any (rsOf es) Bb ct cb w _ _ H (Lib.hid (VC.out.mono fun z hz => List.mem_append_left _ hz)) (Lib.hid (rsOf_ok EO.out)) (by rw [rsOf_len, HES.out]; omega) (Lib.hid (by rw [HBL.out]; exact hct)) (by omega)) ?_
      rintro _ _ ⟨k, vR, vs, curR, EN2, rfl, hS, hRV, hVS, h2⟩
      obtain ⟨BR, cR, rfl, _⟩ := hRV.shape
      replace H := Lib.hid h2
      have RR := Lib.hid hRV
      have VS := Lib.hid hVS
      have SP := Lib.hid hS
      have hkk : k ≤ ka := by have h := hS.le; rw [rsOf_len, HES.out] at h; exact h
      obtain ⟨ok, hok⟩ : ∃ ok, offL (rsOf es) k = ok := ⟨_, rfl⟩
      rw [hok]
      have HOK := Lib.hid hok
      have hokc : ok ≤ ct := by rw [← hok]; exact hS.in_
      clear h2 hRV hVS hS hok
      go_wp2_with (first
          | go_skip)
      obtain ⟨gE, cE', eE⟩ : ∃ g c', (.slice BE (ka + 1) cE : Value) = .slice (some ⟨g, 0, none⟩) (ka + 1) c' := by
        rcases RE.out.or_ with ⟨_, h⟩ | ⟨g, cap, e, _⟩
        · omega
        · exact ⟨g, cap, e⟩
      cases eE
      have EC : Hid (∀ W, Hld (rowE (.slice (some ⟨gE, 0, none⟩) (ka + 1) cE) 3 curE) W → ∀ (j : Nat), j ≤ ka → W.cell? ⟨gE, j, none⟩ = some (.int .i64 (offL (rsOf es) j))) := Lib.hid fun W hW j hj => by
        obtain ⟨g, o, e1, _, h⟩ := (VIn.of_row (e := 3) RE.out).cells hW (by omega)
        cases e1
        have h2 := h j (.int .i64 (offL (rsOf es) j)) (by rw [List.getElem?_map, endsL_at es (by rw [HES.out]; exact hj)]; rfl)
        simpa using h2
      go_loopw [19] (fun j_ wr => ∃ j : Nat, j_ = .int .i64 j ∧ j ≤ k ∧ Hid (Hp w wr (rowE (.slice BR k cR) 44 curR ++ (EN2 ++ (rowE (.slice Bb nb cb) 5 curb ++ (rowE (.slice BA ka cA) 39 curA ++ (rowE (.slice (some ⟨gE, 0, none⟩) (ka + 1) cE) 3 curE ++ EN))))))) (fun j_ _ => ka + 1 - (intOf j_).toNat)
      case atStart => exact ⟨0, rfl, by omega, H⟩
      case round =>
        clear H
        obtain ⟨j, rfl, hjk, H⟩ := hrel
        by_cases hlt2 : j < k
        · have hja : j < ka := by omega
          obtain ⟨oj, hoj⟩ : ∃ oj, offL (rsOf es) (j + 1) = oj := ⟨_, rfl⟩
          have XE0 := EC.out wr (H.out.hld fun z hz => List.mem_append_right _ (List.mem_append_right _ (List.mem_append_right _ (List.mem_append_right _ (List.mem_append_left _ hz))))) (j + 1) (by omega)
          rw [hoj] at XE0
          have XE := Lib.hid XE0
          have hojc : oj ≤ ct := by
            rw [← hoj]
            have h1 := offL_mono (rs := rsOf es) (i := j + 1) (j := k) (by omega)
            rw [HOK.out] at h1
            omega
          have hd : decide ((oj : Int) ≤ ct) = true := decide_eq_true (by omega)
          have hdn : decide (oj ≤ ct) = true := decide_eq_true hojc
          clear hoj XE0
          have hj1 : IntKind.i64.wrap ((j : Int) + 1) = ((j + 1 : Nat) : Int) := by rw [IntWalk.i64_in _ (by omega)]; omega
          go_wp2_with (first
              | go_skip
              | ((with_reducible refine isLoad ?_); (first | (refine ld1X XE ?_ (hT := kIntG)) | (refine ld1X XJ ?_ (hT := kIntG)))))
          go_roundw
          case rel => exact ⟨j + 1, by go_num, by omega, H⟩
          case measure => simp [intOf]; omega
        · obtain rfl : j = k := by omega
          rcases Nat.lt_or_ge j ka with hja | hja
          · obtain ⟨oj, hoj⟩ : ∃ oj, offL (rsOf es) (j + 1) = oj := ⟨_, rfl⟩
            have XE0 := EC.out wr (H.out.hld fun z hz => List.mem_append_right _ (List.mem_append_right _ (List.mem_append_right _ (List.mem_append_right _ (List.mem_append_left _ hz))))) (j + 1) (by omega)
            rw [hoj] at XE0
            have XE := Lib.hid XE0
            have hojc : ct < oj := by
              rcases SP.out.out_ with h1 | h1
              · rw [rsOf_len, HES.out] at h1
                omega
              · rw [hoj] at h1
                exact h1
            have hd : decide ((oj : Int) ≤ ct) = false := decide_eq_false (by omega)
            have hdn : decide (oj ≤ ct) = false := decide_eq_false (by omega)
            clear hoj XE0
            have hj1 : IntKind.i64.wrap ((j : Int) + 1) = ((j + 1 : Nat) : Int) := by rw [IntWalk.i64_in _ (by omega)]; omega
            have hjk1 : j < ka + 1 := by omega
            have XJ0 := EC.out wr (H.out.hld fun z hz => List.mem_append_right _ (List.mem_append_right _ (List.mem_append_right _ (List.mem_append_right _ (List.mem_append_left _ hz))))) j (by omega)
            rw [HOK.out] at XJ0
            have XJ := Lib.hid XJ0
            clear XJ0

            go_wp2_with (first
                | go_skip
                | ((with_reducible refine isLoad ?_); (first | (refine ld1X XE ?_ (hT := kIntG)) | (refine ld1X XJ ?_ (hT := kIntG)))))
            clear XJ
            go_loopw [119] (fun r_ wr => ∃ r : Nat, r_ = .int .i64 r ∧ r ≤ j ∧ Hid (Hp w wr (rowE (.slice BR j cR) 44 curR ++ (EN2 ++ (rowE (.slice Bb nb cb) 5 curb ++ (rowE (.slice BA ka cA) 39 curA ++ (rowE (.slice (some ⟨gE, 0, none⟩) (ka + 1) cE) 3 curE ++ EN))))))) (fun r_ _ => j - (intOf r_).toNat)
            case atStart => exact ⟨0, rfl, by omega, H⟩
            case round =>
              clear H
              obtain ⟨r, rfl, hrj, H⟩ := hrel
              by_cases hlr : r < j
              · have hrka : r < ka := by omega
                obtain ⟨e, he⟩ : ∃ e, es[r]? = some e := ⟨_, List.getElem?_eq_getElem (by rw [HES.out]; omega)⟩
                have hrs : ((rsOf es).take j)[r]? = some (wrB e.x) := by
                  rw [List.getElem?_take, if_pos hlr]
                  unfold rsOf
                  rw [List.getElem?_map, he]
                  rfl
                obtain ⟨u, hu, Ar, cr, rfl, hV⟩ := VS.out.at_ hrs
                obtain ⟨eFT, eNE, eRI⟩ := EO.out e (List.mem_of_getElem? he)
                obtain ⟨gR, cR', eR⟩ : ∃ g c', (.slice BR j cR : Value) = .slice (some ⟨g, 0, none⟩) j c' := by
                  rcases RR.out.or_ with ⟨_, h⟩ | ⟨g, cap, e, _⟩
                  · omega
                  · exact ⟨g, cap, e⟩
                cases eR
                have XR : Hid (wr.cell? ⟨gR, r, none⟩ = some (.slice Ar (wrB e.x).length cr)) := Lib.hid (by
                  obtain ⟨g, o, e1, _, h⟩ := (VIn.of_row (e := 44) RR.out).cells (H.out.hld fun z hz => List.mem_append_left _ hz) (by omega)
                  cases e1
                  simpa using h r _ hu)
                have VREC := Lib.hid hV
                have EFT := Lib.hid eFT
                have ENE := Lib.hid eNE
                have ERI := Lib.hid eRI
                have HE := Lib.hid he
                obtain ⟨wl, hwl⟩ : ∃ wl, (wrB e.x).length = wl := ⟨_, rfl⟩
                rw [hwl] at VREC XR
                clear hrs hu hV eFT eNE eRI he hwl
                go_wp2_with (first
                    | go_skip
                    | ((with_reducible refine isLoad ?_); refine ld1X XR ?_ (hT := kByts)))
                go_at_call 16
                refine Calls.mono (Read_any e.x Ar wl cr w _ _ H (Lib.hid (VREC.out.mono fun z hz => List.mem_append_right _ (List.mem_append_left _ hz))) EFT ENE) ?_
                rintro _ _ ⟨B2, k2, c2, cur2, rfl, hR2, h2⟩
                have hk2 : k2 = e.n := by
                  have h1 : e.x.cells.length = k2 := hR2.len_ CeP.len (by decide)
                  have h3 := ERI.out.len CeP.len (by decide)
                  omega
                subst hk2
                replace H := Lib.hid h2
                have R2 := Lib.hid hR2
                obtain ⟨gA, cA', eA, hrA⟩ := (show RowIn (rowE (.slice BA ka cA) 39 curA) 39 6 (.slice BA ka cA) ka (flat MsE.cells es) from ⟨curA, RA.out, fun z hz => hz⟩).at_ MsE.len HE.out (by decide)
                injection eA with eA1 _ eA2
                subst eA1
                have XS := Lib.hid hrA
                clear h2 hR2 hrA eA2 XR
                go_wp2_with (first
                    | go_skip
                    | ((with_reducible refine isAlloc ?_); refine alA H ?_ (hz := zMsg); clear H; intro b22 _ H)
                    | ((with_reducible refine isStore ?_); refine stA H ?_ (hT := rMsg) (hu := by (repeat (first | apply Upd.head | apply Upd.tail | apply Upd.appA | assumption))); clear H; intro _ H))
                refine wp_region_Y 10 [.c (.int .i64 0), .c (.bool false), .c (.bool false), .c (.agg #[.int .i64 e.x.kind, .int .i64 e.x.frm, .int .i64 e.x.dst, .int .i64 e.x.seq, .int .u32 e.x.clock, .slice B2 e.n c2]), .c (.slice (some ⟨gA, 0, none⟩) ka cA), .c (.int .i64 r), .c (.pointer (some ⟨gA, r * 6, none⟩)), .c (.agg #[.int .i64 e.x.kind, .int .i64 e.x.frm, .int .i64 e.x.dst, .int .i64 e.x.seq, .int .u32 e.x.clock, .slice e.B e.n e.c]), .y, .c (.bool false)] ((b22, 39, [.int .i64 e.x.kind, .int .i64 e.x.frm, .int .i64 e.x.dst, .int .i64 e.x.seq, .int .u32 e.x.clock, .slice B2 e.n c2]) :: (rowE (.slice B2 e.n c2) 78 cur2 ++ (rowE (.slice (some ⟨gR, 0, none⟩) j cR) 44 curR ++ (EN2 ++ (rowE (.slice Bb nb cb) 5 curb ++ (rowE (.slice (some ⟨gA, 0, none⟩) ka cA) 39 curA ++ (rowE (.slice (some ⟨gE, 0, none⟩) (ka + 1) cE) 3 curE ++ EN))))))) H (by (repeat (first | exact List.Sublist.refl _ | refine List.Sublist.cons_cons _ ?_ | refine List.Sublist.append_left ?_ _ | refine List.Sublist.trans ?_ (List.sublist_append_right _ _) | refine List.Sublist.cons _ ?_))) (by kernel_rfl) (by kernel_rfl) (by kernel_rfl) ?_
                simp only [List.take_succ_cons, List.take_zero, List.drop_succ_cons, List.drop_zero]
                refine wpY_c (by rfl) (by (first | exact wanted_none rfl | exact wanted_some rfl rfl)) (by intro W _; first | (go_simp; rfl) | (go_simp; done) | (trace_state; fail)) ?_
                (simp only [Act.put, List.setIfInBounds_toArray, List.set_cons_succ, List.set_cons_zero])
                refine wpY_c (by rfl) (by (first | exact wanted_none rfl | exact wanted_some rfl rfl)) (by intro W _; first | (go_simp; rfl) | (go_simp; done) | (trace_state; fail)) ?_
                (simp only [Act.put, List.setIfInBounds_toArray, List.set_cons_succ, List.set_cons_zero])
                refine wpY_c (by rfl) (by (first | exact wanted_none rfl | exact wanted_some rfl rfl)) (by intro W _; first | (go_simp; rfl) | (go_simp; done) | (trace_state; fail)) ?_
                (simp only [Act.put, List.setIfInBounds_toArray, List.set_cons_succ, List.set_cons_zero])
                refine wpY_load (by rfl) (by rfl) (by (first | exact wanted_none rfl | exact wanted_some rfl rfl)) rMsg (by rfl) (by (repeat (first | exact List.Mem.head _ | refine List.Mem.tail _ ?_ | refine List.mem_append_right _ ?_ | assumption))) (by first | rfl | ((simp only [List.drop, List.take]); rfl)) (by rfl) ?_
                (simp only [Act.put, List.setIfInBounds_toArray, List.set_cons_succ, List.set_cons_zero])
                refine wpY_c (by rfl) (by (first | exact wanted_none rfl | exact wanted_some rfl rfl)) (by intro W _; first | (go_simp; rfl) | (go_simp; done) | (trace_state; fail)) ?_
                (simp only [Act.put, List.setIfInBounds_toArray, List.set_cons_succ, List.set_cons_zero])
                refine wpY_c (by rfl) (by (first | exact wanted_none rfl | exact wanted_some rfl rfl)) (by intro W _; first | (go_simp; rfl) | (go_simp; done) | (trace_state; fail)) ?_
                (simp only [Act.put, List.setIfInBounds_toArray, List.set_cons_succ, List.set_cons_zero])
                refine wpY_c (by rfl) (by (first | exact wanted_none rfl | exact wanted_some rfl rfl)) (by intro W _; first | (go_simp; rfl) | (go_simp; done) | (trace_state; fail)) ?_
                (simp only [Act.put, List.setIfInBounds_toArray, List.set_cons_succ, List.set_cons_zero])
                refine wpY_loadS (by rfl) (by rfl) (by (first | exact wanted_none rfl | exact wanted_some rfl rfl)) rMsg (by rfl) (by intro W HW; exact XS.out W (HW.out.hld fun z hz => .tail _ (List.mem_append_right _ (List.mem_append_right _ (List.mem_append_right _ (List.mem_append_right _ (List.mem_append_left _ hz))))))) (by rfl) ?_
                (simp only [Act.put, List.setIfInBounds_toArray, List.set_cons_succ, List.set_cons_zero])
                refine wpY_y (by rfl) (by (first | exact wanted_none rfl | exact wanted_some rfl rfl)) (fun G F W HF hG => ?_)
                go_simp
                unfold upY
                refine Calls.mono (mSame_any e.x (rowE (.slice B2 e.n c2) 78 cur2) EN B2 e.B e.n c2 e.c w W _ HF (Lib.hid ⟨cur2, R2.out, fun z hz => hz⟩) ERI (Lib.hid fun z hz => .tail _ (List.mem_append_left _ (List.mem_append_left _ hz))) (Lib.hid fun z hz => .tail _ (List.mem_append_left _ (List.mem_append_right _ (List.mem_append_right _ (List.mem_append_right _ (List.mem_append_right _ (List.mem_append_right _ (List.mem_append_right _ hz)))))))) (by have h1 := ERI.out.len CeP.len (by decide); have h2 := EFT.out.cl; omega)) ?_
                rintro _ W2 ⟨rfl, h2⟩
                refine ⟨_, rfl, hG _ _ _ h2 (List.Sublist.refl _) ?_⟩
                clear HF hG h2
                (simp only [Act.put, List.setIfInBounds_toArray, List.set_cons_succ, List.set_cons_zero])
                refine wpY_c (by rfl) (by (first | exact wanted_none rfl | exact wanted_some rfl rfl)) (by intro W _; first | (go_simp; rfl) | (go_simp; done) | (trace_state; fail)) ?_
                (simp only [Act.put, List.setIfInBounds_toArray, List.set_cons_succ, List.set_cons_zero])
                refine wpY_nil ?_
                clear H
                intro _ H
                go_wp2_with (first
                    | go_skip
                    | ((with_reducible refine isAlloc ?_); refine alA H ?_ (hz := zMsg); clear H; intro b22 _ H)
                    | ((with_reducible refine isStore ?_); refine stA H ?_ (hT := rMsg) (hu := by (repeat (first | apply Upd.head | apply Upd.tail | apply Upd.appA | assumption))); clear H; intro _ H))
                go_roundw
                case rel => exact ⟨r + 1, by go_num, by omega, Lib.hid (H.out.sub (List.Sublist.trans (List.sublist_append_right _ _) (List.sublist_cons_self _ _)))⟩
                case measure => simp [intOf]; omega
              · obtain rfl : r = j := by omega
                go_wp2_with (first
                    | go_skip)
                go_ret
                exact ⟨rfl, H.out.bel⟩
          · have hja2 : decide ((j : Int) < ka) = false := decide_eq_false (by omega)
            have hjk1 : j < ka + 1 := by omega
            have XJ0 := EC.out wr (H.out.hld fun z hz => List.mem_append_right _ (List.mem_append_right _ (List.mem_append_right _ (List.mem_append_right _ (List.mem_append_left _ hz))))) j (by omega)
            rw [HOK.out] at XJ0
            have XJ := Lib.hid XJ0
            clear XJ0

            go_wp2_with (first
                | go_skip
                | ((with_reducible refine isLoad ?_); (first | (refine ld1X XE ?_ (hT := kIntG)) | (refine ld1X XJ ?_ (hT := kIntG)))))
            clear XJ
            go_loopw [119] (fun r_ wr => ∃ r : Nat, r_ = .int .i64 r ∧ r ≤ j ∧ Hid (Hp w wr (rowE (.slice BR j cR) 44 curR ++ (EN2 ++ (rowE (.slice Bb nb cb) 5 curb ++ (rowE (.slice BA ka cA) 39 curA ++ (rowE (.slice (some ⟨gE, 0, none⟩) (ka + 1) cE) 3 curE ++ EN))))))) (fun r_ _ => j - (intOf r_).toNat)
            case atStart => exact ⟨0, rfl, by omega, H⟩
            case round =>
              clear H
              obtain ⟨r, rfl, hrj, H⟩ := hrel
              by_cases hlr : r < j
              · have hrka : r < ka := by omega
                obtain ⟨e, he⟩ : ∃ e, es[r]? = some e := ⟨_, List.getElem?_eq_getElem (by rw [HES.out]; omega)⟩
                have hrs : ((rsOf es).take j)[r]? = some (wrB e.x) := by
                  rw [List.getElem?_take, if_pos hlr]
                  unfold rsOf
                  rw [List.getElem?_map, he]
                  rfl
                obtain ⟨u, hu, Ar, cr, rfl, hV⟩ := VS.out.at_ hrs
                obtain ⟨eFT, eNE, eRI⟩ := EO.out e (List.mem_of_getElem? he)
                obtain ⟨gR, cR', eR⟩ : ∃ g c', (.slice BR j cR : Value) = .slice (some ⟨g, 0, none⟩) j c' := by
                  rcases RR.out.or_ with ⟨_, h⟩ | ⟨g, cap, e, _⟩
                  · omega
                  · exact ⟨g, cap, e⟩
                cases eR
                have XR : Hid (wr.cell? ⟨gR, r, none⟩ = some (.slice Ar (wrB e.x).length cr)) := Lib.hid (by
                  obtain ⟨g, o, e1, _, h⟩ := (VIn.of_row (e := 44) RR.out).cells (H.out.hld fun z hz => List.mem_append_left _ hz) (by omega)
                  cases e1
                  simpa using h r _ hu)
                have VREC := Lib.hid hV
                have EFT := Lib.hid eFT
                have ENE := Lib.hid eNE
                have ERI := Lib.hid eRI
                have HE := Lib.hid he
                obtain ⟨wl, hwl⟩ : ∃ wl, (wrB e.x).length = wl := ⟨_, rfl⟩
                rw [hwl] at VREC XR
                clear hrs hu hV eFT eNE eRI he hwl
                go_wp2_with (first
                    | go_skip
                    | ((with_reducible refine isLoad ?_); refine ld1X XR ?_ (hT := kByts)))
                go_at_call 16
                refine Calls.mono (Read_any e.x Ar wl cr w _ _ H (Lib.hid (VREC.out.mono fun z hz => List.mem_append_right _ (List.mem_append_left _ hz))) EFT ENE) ?_
                rintro _ _ ⟨B2, k2, c2, cur2, rfl, hR2, h2⟩
                have hk2 : k2 = e.n := by
                  have h1 : e.x.cells.length = k2 := hR2.len_ CeP.len (by decide)
                  have h3 := ERI.out.len CeP.len (by decide)
                  omega
                subst hk2
                replace H := Lib.hid h2
                have R2 := Lib.hid hR2
                obtain ⟨gA, cA', eA, hrA⟩ := (show RowIn (rowE (.slice BA ka cA) 39 curA) 39 6 (.slice BA ka cA) ka (flat MsE.cells es) from ⟨curA, RA.out, fun z hz => hz⟩).at_ MsE.len HE.out (by decide)
                injection eA with eA1 _ eA2
                subst eA1
                have XS := Lib.hid hrA
                clear h2 hR2 hrA eA2 XR
                go_wp2_with (first
                    | go_skip
                    | ((with_reducible refine isAlloc ?_); refine alA H ?_ (hz := zMsg); clear H; intro b22 _ H)
                    | ((with_reducible refine isStore ?_); refine stA H ?_ (hT := rMsg) (hu := by (repeat (first | apply Upd.head | apply Upd.tail | apply Upd.appA | assumption))); clear H; intro _ H))
                refine wp_region_Y 10 [.c (.int .i64 0), .c (.bool false), .c (.bool false), .c (.agg #[.int .i64 e.x.kind, .int .i64 e.x.frm, .int .i64 e.x.dst, .int .i64 e.x.seq, .int .u32 e.x.clock, .slice B2 e.n c2]), .c (.slice (some ⟨gA, 0, none⟩) ka cA), .c (.int .i64 r), .c (.pointer (some ⟨gA, r * 6, none⟩)), .c (.agg #[.int .i64 e.x.kind, .int .i64 e.x.frm, .int .i64 e.x.dst, .int .i64 e.x.seq, .int .u32 e.x.clock, .slice e.B e.n e.c]), .y, .c (.bool false)] ((b22, 39, [.int .i64 e.x.kind, .int .i64 e.x.frm, .int .i64 e.x.dst, .int .i64 e.x.seq, .int .u32 e.x.clock, .slice B2 e.n c2]) :: (rowE (.slice B2 e.n c2) 78 cur2 ++ (rowE (.slice (some ⟨gR, 0, none⟩) j cR) 44 curR ++ (EN2 ++ (rowE (.slice Bb nb cb) 5 curb ++ (rowE (.slice (some ⟨gA, 0, none⟩) ka cA) 39 curA ++ (rowE (.slice (some ⟨gE, 0, none⟩) (ka + 1) cE) 3 curE ++ EN))))))) H (by (repeat (first | exact List.Sublist.refl _ | refine List.Sublist.cons_cons _ ?_ | refine List.Sublist.append_left ?_ _ | refine List.Sublist.trans ?_ (List.sublist_append_right _ _) | refine List.Sublist.cons _ ?_))) (by kernel_rfl) (by kernel_rfl) (by kernel_rfl) ?_
                simp only [List.take_succ_cons, List.take_zero, List.drop_succ_cons, List.drop_zero]
                refine wpY_c (by rfl) (by (first | exact wanted_none rfl | exact wanted_some rfl rfl)) (by intro W _; first | (go_simp; rfl) | (go_simp; done) | (trace_state; fail)) ?_
                (simp only [Act.put, List.setIfInBounds_toArray, List.set_cons_succ, List.set_cons_zero])
                refine wpY_c (by rfl) (by (first | exact wanted_none rfl | exact wanted_some rfl rfl)) (by intro W _; first | (go_simp; rfl) | (go_simp; done) | (trace_state; fail)) ?_
                (simp only [Act.put, List.setIfInBounds_toArray, List.set_cons_succ, List.set_cons_zero])
                refine wpY_c (by rfl) (by (first | exact wanted_none rfl | exact wanted_some rfl rfl)) (by intro W _; first | (go_simp; rfl) | (go_simp; done) | (trace_state; fail)) ?_
                (simp only [Act.put, List.setIfInBounds_toArray, List.set_cons_succ, List.set_cons_zero])
                refine wpY_load (by rfl) (by rfl) (by (first | exact wanted_none rfl | exact wanted_some rfl rfl)) rMsg (by rfl) (by (repeat (first | exact List.Mem.head _ | refine List.Mem.tail _ ?_ | refine List.mem_append_right _ ?_ | assumption))) (by first | rfl | ((simp only [List.drop, List.take]); rfl)) (by rfl) ?_
                (simp only [Act.put, List.setIfInBounds_toArray, List.set_cons_succ, List.set_cons_zero])
                refine wpY_c (by rfl) (by (first | exact wanted_none rfl | exact wanted_some rfl rfl)) (by intro W _; first | (go_simp; rfl) | (go_simp; done) | (trace_state; fail)) ?_
                (simp only [Act.put, List.setIfInBounds_toArray, List.set_cons_succ, List.set_cons_zero])
                refine wpY_c (by rfl) (by (first | exact wanted_none rfl | exact wanted_some rfl rfl)) (by intro W _; first | (go_simp; rfl) | (go_simp; done) | (trace_state; fail)) ?_
                (simp only [Act.put, List.setIfInBounds_toArray, List.set_cons_succ, List.set_cons_zero])
                refine wpY_c (by rfl) (by (first | exact wanted_none rfl | exact wanted_some rfl rfl)) (by intro W _; first | (go_simp; rfl) | (go_simp; done) | (trace_state; fail)) ?_
                (simp only [Act.put, List.setIfInBounds_toArray, List.set_cons_succ, List.set_cons_zero])
                refine wpY_loadS (by rfl) (by rfl) (by (first | exact wanted_none rfl | exact wanted_some rfl rfl)) rMsg (by rfl) (by intro W HW; exact XS.out W (HW.out.hld fun z hz => .tail _ (List.mem_append_right _ (List.mem_append_right _ (List.mem_append_right _ (List.mem_append_right _ (List.mem_append_left _ hz))))))) (by rfl) ?_
                (simp only [Act.put, List.setIfInBounds_toArray, List.set_cons_succ, List.set_cons_zero])
                refine wpY_y (by rfl) (by (first | exact wanted_none rfl | exact wanted_some rfl rfl)) (fun G F W HF hG => ?_)
                go_simp
                unfold upY
                refine Calls.mono (mSame_any e.x (rowE (.slice B2 e.n c2) 78 cur2) EN B2 e.B e.n c2 e.c w W _ HF (Lib.hid ⟨cur2, R2.out, fun z hz => hz⟩) ERI (Lib.hid fun z hz => .tail _ (List.mem_append_left _ (List.mem_append_left _ hz))) (Lib.hid fun z hz => .tail _ (List.mem_append_left _ (List.mem_append_right _ (List.mem_append_right _ (List.mem_append_right _ (List.mem_append_right _ (List.mem_append_right _ (List.mem_append_right _ hz)))))))) (by have h1 := ERI.out.len CeP.len (by decide); have h2 := EFT.out.cl; omega)) ?_
                rintro _ W2 ⟨rfl, h2⟩
                refine ⟨_, rfl, hG _ _ _ h2 (List.Sublist.refl _) ?_⟩
                clear HF hG h2
                (simp only [Act.put, List.setIfInBounds_toArray, List.set_cons_succ, List.set_cons_zero])
                refine wpY_c (by rfl) (by (first | exact wanted_none rfl | exact wanted_some rfl rfl)) (by intro W _; first | (go_simp; rfl) | (go_simp; done) | (trace_state; fail)) ?_
                (simp only [Act.put, List.setIfInBounds_toArray, List.set_cons_succ, List.set_cons_zero])
                refine wpY_nil ?_
                clear H
                intro _ H
                go_wp2_with (first
                    | go_skip
                    | ((with_reducible refine isAlloc ?_); refine alA H ?_ (hz := zMsg); clear H; intro b22 _ H)
                    | ((with_reducible refine isStore ?_); refine stA H ?_ (hT := rMsg) (hu := by (repeat (first | apply Upd.head | apply Upd.tail | apply Upd.appA | assumption))); clear H; intro _ H))
                go_roundw
                case rel => exact ⟨r + 1, by go_num, by omega, Lib.hid (H.out.sub (List.Sublist.trans (List.sublist_append_right _ _) (List.sublist_cons_self _ _)))⟩
                case measure => simp [intOf]; omega
              · obtain rfl : r = j := by omega
                go_wp2_with (first
                    | go_skip)
                go_ret
                exact ⟨rfl, H.out.bel⟩
end Go.Proofs.Ythepafendopfhaa
