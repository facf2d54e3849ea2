/-
  NARROWER THAN 'FOR EVERY INPUT', by the rows' own cells (each row's printed sentence says how): SeeNarrows: laid · SeeLooks: laid · SeePoint: laid · CarryBack: laid · CarryWider: laid · CarryLooks: laid · CarryTrue: laid.
  DERIVED. THE GIVEN ROWS OF THIS SEAT. 7 by the template 'for every input the law returns true; each argument reads behind the call as it read before'; 0 by the template 'total and deterministic' (their statements: YtolekonocbeekaaDoorTotals.lean).
  GIVEN WITH THE SEED: the statements are not yours to turn. If you find one false, say at which input.
  Laid BY PROGRAM, IN A SANDBOX (cutbox-rows.mjs): the forced cells as the released guide's own fill.sh prints them over the translation 09ee79537a2cd513… (all of the seat's roots in one cut). By AI agents, Wed Nov 11 2026. No macro, syntax, notation, axiom, sorry.
-/
import Derived.Test.YtolekonocbeekaaDoorChecked
import GoSem.Claim
import GoSem.ClaimJoined
import GoSem.ClaimMapViews
import Derived.JoinedTies
import Derived.KernelRfl
namespace Go.Proofs.YtolekonocbeekaaDoor
/- THE CELL 'sum', in the pinned program and in every row, IS THE sha256 OF THE DUMP (.gsa) THAT YtolekonocbeekaaDoorProg.lean LOADS. Nothing in Lean hashes anything: it is a label: what it is worth is what the hold of that sum in a sandbox is worth. -/
noncomputable def Tryd.pinned : Pinned := { name := "ytolekonocbeekaadoor", sum := "09ee79537a2cd5132e46bd5f49904e4efb63dc45abe419dfd739e5fb4bc1b3fe", checked := Tryd.checked }
namespace Rows
def none {H : Type} : Left H := { results := [], args := [] }

/- WHAT THE LISTED PACKAGE-LEVEL VARIABLES READ AS WHEN THE CALL BEGINS. Each datum BY PROGRAM (the guide's laid-datum.mjs) off the statement by which the dump's own 'gosem.cut.vars' lays the variable. In a bare row this is a premise. The card (YtolekonocbeekaaDoorCards.lean) ties it to the program's text. -/
def laid_math_bits_deBruijn64tab {H : Type} : DataW H := .agg [.lit (.int .u8 0), .lit (.int .u8 1), .lit (.int .u8 56), .lit (.int .u8 2), .lit (.int .u8 57), .lit (.int .u8 49), .lit (.int .u8 28), .lit (.int .u8 3), .lit (.int .u8 61), .lit (.int .u8 58), .lit (.int .u8 42), .lit (.int .u8 50), .lit (.int .u8 38), .lit (.int .u8 29), .lit (.int .u8 17), .lit (.int .u8 4), .lit (.int .u8 62), .lit (.int .u8 47), .lit (.int .u8 59), .lit (.int .u8 36), .lit (.int .u8 45), .lit (.int .u8 43), .lit (.int .u8 51), .lit (.int .u8 22), .lit (.int .u8 53), .lit (.int .u8 39), .lit (.int .u8 33), .lit (.int .u8 30), .lit (.int .u8 24), .lit (.int .u8 18), .lit (.int .u8 12), .lit (.int .u8 5), .lit (.int .u8 63), .lit (.int .u8 55), .lit (.int .u8 48), .lit (.int .u8 27), .lit (.int .u8 60), .lit (.int .u8 41), .lit (.int .u8 37), .lit (.int .u8 16), .lit (.int .u8 46), .lit (.int .u8 35), .lit (.int .u8 44), .lit (.int .u8 21), .lit (.int .u8 52), .lit (.int .u8 32), .lit (.int .u8 23), .lit (.int .u8 11), .lit (.int .u8 54), .lit (.int .u8 26), .lit (.int .u8 40), .lit (.int .u8 15), .lit (.int .u8 34), .lit (.int .u8 20), .lit (.int .u8 31), .lit (.int .u8 10), .lit (.int .u8 25), .lit (.int .u8 14), .lit (.int .u8 19), .lit (.int .u8 9), .lit (.int .u8 13), .lit (.int .u8 8), .lit (.int .u8 7), .lit (.int .u8 6)]

/-- 'gantkeep4.SeeNarrows': WHATEVER THE INPUT: true; the input reads as it did. -/
def seeNarrowsSpec : ChangeSpec := { name := "seeNarrows", fn := fun _ => fun
  | [d1, d2, d3] => { results := [.lit (.bool true)], args := [d1, d2, d3] }
  | _ => none }
def seeNarrowsRow : OpenClaim := { program := "ytolekonocbeekaadoor", sum := "09ee79537a2cd5132e46bd5f49904e4efb63dc45abe419dfd739e5fb4bc1b3fe", func := "gantry/gantkeep4.SeeNarrows", spec := "seeNarrows", inPlace := ["math/bits.Sub64", "internal/bytealg.abigen_runtime_cmpstring"], unfollowed := true, recurses := true, named := ["math/bits.deBruijn64tab"], apart := false, laid := [("math/bits.deBruijn64tab", laid_math_bits_deBruijn64tab)] }
def SeeNarrowsSaid : Prop := seeNarrowsRow.holds Tryd.pinned (OpenSpec.ofChange seeNarrowsSpec)

/-- ITS FALSE NEIGHBOUR: 'it returns false'. Refute it at one input. -/
def seeNarrowsWrong : ChangeSpec := { name := "seeNarrows", fn := fun _ => fun
  | [d1, d2, d3] => { results := [.lit (.bool false)], args := [d1, d2, d3] }
  | _ => none }
def SeeNarrowsWrongFalsely : Prop := seeNarrowsRow.holds Tryd.pinned (OpenSpec.ofChange seeNarrowsWrong)

/-- 'gantkeep4.SeeLooks': WHATEVER THE INPUT: true; the input reads as it did. -/
def seeLooksSpec : ChangeSpec := { name := "seeLooks", fn := fun _ => fun
  | [d1, d2, d3, d4, d5] => { results := [.lit (.bool true)], args := [d1, d2, d3, d4, d5] }
  | _ => none }
def seeLooksRow : OpenClaim := { program := "ytolekonocbeekaadoor", sum := "09ee79537a2cd5132e46bd5f49904e4efb63dc45abe419dfd739e5fb4bc1b3fe", func := "gantry/gantkeep4.SeeLooks", spec := "seeLooks", inPlace := ["math/bits.Sub64", "internal/bytealg.abigen_runtime_cmpstring"], unfollowed := true, recurses := true, named := ["math/bits.deBruijn64tab"], apart := false, laid := [("math/bits.deBruijn64tab", laid_math_bits_deBruijn64tab)] }
def SeeLooksSaid : Prop := seeLooksRow.holds Tryd.pinned (OpenSpec.ofChange seeLooksSpec)

/-- ITS FALSE NEIGHBOUR: 'it returns false'. Refute it at one input. -/
def seeLooksWrong : ChangeSpec := { name := "seeLooks", fn := fun _ => fun
  | [d1, d2, d3, d4, d5] => { results := [.lit (.bool false)], args := [d1, d2, d3, d4, d5] }
  | _ => none }
def SeeLooksWrongFalsely : Prop := seeLooksRow.holds Tryd.pinned (OpenSpec.ofChange seeLooksWrong)

/-- 'gantkeep4.SeePoint': WHATEVER THE INPUT: true; the input reads as it did. -/
def seePointSpec : ChangeSpec := { name := "seePoint", fn := fun _ => fun
  | [d1, d2, d3, d4] => { results := [.lit (.bool true)], args := [d1, d2, d3, d4] }
  | _ => none }
def seePointRow : OpenClaim := { program := "ytolekonocbeekaadoor", sum := "09ee79537a2cd5132e46bd5f49904e4efb63dc45abe419dfd739e5fb4bc1b3fe", func := "gantry/gantkeep4.SeePoint", spec := "seePoint", inPlace := ["math/bits.Sub64", "internal/bytealg.abigen_runtime_cmpstring"], unfollowed := true, recurses := true, named := ["math/bits.deBruijn64tab"], apart := false, laid := [("math/bits.deBruijn64tab", laid_math_bits_deBruijn64tab)] }
def SeePointSaid : Prop := seePointRow.holds Tryd.pinned (OpenSpec.ofChange seePointSpec)

/-- ITS FALSE NEIGHBOUR: 'it returns false'. Refute it at one input. -/
def seePointWrong : ChangeSpec := { name := "seePoint", fn := fun _ => fun
  | [d1, d2, d3, d4] => { results := [.lit (.bool false)], args := [d1, d2, d3, d4] }
  | _ => none }
def SeePointWrongFalsely : Prop := seePointRow.holds Tryd.pinned (OpenSpec.ofChange seePointWrong)

/-- 'gantkeep4.CarryBack': WHATEVER THE INPUT: true; the input reads as it did. -/
def carryBackSpec : ChangeSpec := { name := "carryBack", fn := fun _ => fun
  | [d1, d2, d3] => { results := [.lit (.bool true)], args := [d1, d2, d3] }
  | _ => none }
def carryBackRow : OpenClaim := { program := "ytolekonocbeekaadoor", sum := "09ee79537a2cd5132e46bd5f49904e4efb63dc45abe419dfd739e5fb4bc1b3fe", func := "gantry/gantkeep4.CarryBack", spec := "carryBack", inPlace := ["math/bits.Sub64", "internal/bytealg.abigen_runtime_cmpstring"], unfollowed := true, recurses := true, named := ["math/bits.deBruijn64tab"], apart := false, laid := [("math/bits.deBruijn64tab", laid_math_bits_deBruijn64tab)] }
def CarryBackSaid : Prop := carryBackRow.holds Tryd.pinned (OpenSpec.ofChange carryBackSpec)

/-- ITS FALSE NEIGHBOUR: 'it returns false'. Refute it at one input. -/
def carryBackWrong : ChangeSpec := { name := "carryBack", fn := fun _ => fun
  | [d1, d2, d3] => { results := [.lit (.bool false)], args := [d1, d2, d3] }
  | _ => none }
def CarryBackWrongFalsely : Prop := carryBackRow.holds Tryd.pinned (OpenSpec.ofChange carryBackWrong)

/-- 'gantkeep4.CarryWider': WHATEVER THE INPUT: true; the input reads as it did. -/
def carryWiderSpec : ChangeSpec := { name := "carryWider", fn := fun _ => fun
  | [d1, d2, d3, d4, d5] => { results := [.lit (.bool true)], args := [d1, d2, d3, d4, d5] }
  | _ => none }
def carryWiderRow : OpenClaim := { program := "ytolekonocbeekaadoor", sum := "09ee79537a2cd5132e46bd5f49904e4efb63dc45abe419dfd739e5fb4bc1b3fe", func := "gantry/gantkeep4.CarryWider", spec := "carryWider", inPlace := ["math/bits.Sub64", "internal/bytealg.abigen_runtime_cmpstring"], unfollowed := true, recurses := true, named := ["math/bits.deBruijn64tab"], apart := false, laid := [("math/bits.deBruijn64tab", laid_math_bits_deBruijn64tab)] }
def CarryWiderSaid : Prop := carryWiderRow.holds Tryd.pinned (OpenSpec.ofChange carryWiderSpec)

/-- ITS FALSE NEIGHBOUR: 'it returns false'. Refute it at one input. -/
def carryWiderWrong : ChangeSpec := { name := "carryWider", fn := fun _ => fun
  | [d1, d2, d3, d4, d5] => { results := [.lit (.bool false)], args := [d1, d2, d3, d4, d5] }
  | _ => none }
def CarryWiderWrongFalsely : Prop := carryWiderRow.holds Tryd.pinned (OpenSpec.ofChange carryWiderWrong)

/-- 'gantkeep4.CarryLooks': WHATEVER THE INPUT: true; the input reads as it did. -/
def carryLooksSpec : ChangeSpec := { name := "carryLooks", fn := fun _ => fun
  | [d1, d2, d3] => { results := [.lit (.bool true)], args := [d1, d2, d3] }
  | _ => none }
def carryLooksRow : OpenClaim := { program := "ytolekonocbeekaadoor", sum := "09ee79537a2cd5132e46bd5f49904e4efb63dc45abe419dfd739e5fb4bc1b3fe", func := "gantry/gantkeep4.CarryLooks", spec := "carryLooks", inPlace := ["math/bits.Sub64", "internal/bytealg.abigen_runtime_cmpstring"], unfollowed := true, recurses := true, named := ["math/bits.deBruijn64tab"], apart := false, laid := [("math/bits.deBruijn64tab", laid_math_bits_deBruijn64tab)] }
def CarryLooksSaid : Prop := carryLooksRow.holds Tryd.pinned (OpenSpec.ofChange carryLooksSpec)

/-- ITS FALSE NEIGHBOUR: 'it returns false'. Refute it at one input. -/
def carryLooksWrong : ChangeSpec := { name := "carryLooks", fn := fun _ => fun
  | [d1, d2, d3] => { results := [.lit (.bool false)], args := [d1, d2, d3] }
  | _ => none }
def CarryLooksWrongFalsely : Prop := carryLooksRow.holds Tryd.pinned (OpenSpec.ofChange carryLooksWrong)

/-- 'gantkeep4.CarryTrue': WHATEVER THE INPUT: true; the input reads as it did. -/
def carryTrueSpec : ChangeSpec := { name := "carryTrue", fn := fun _ => fun
  | [d1, d2, d3, d4] => { results := [.lit (.bool true)], args := [d1, d2, d3, d4] }
  | _ => none }
def carryTrueRow : OpenClaim := { program := "ytolekonocbeekaadoor", sum := "09ee79537a2cd5132e46bd5f49904e4efb63dc45abe419dfd739e5fb4bc1b3fe", func := "gantry/gantkeep4.CarryTrue", spec := "carryTrue", inPlace := ["math/bits.Sub64", "internal/bytealg.abigen_runtime_cmpstring"], unfollowed := true, recurses := true, named := ["math/bits.deBruijn64tab"], apart := false, laid := [("math/bits.deBruijn64tab", laid_math_bits_deBruijn64tab)] }
def CarryTrueSaid : Prop := carryTrueRow.holds Tryd.pinned (OpenSpec.ofChange carryTrueSpec)

/-- ITS FALSE NEIGHBOUR: 'it returns false'. Refute it at one input. -/
def carryTrueWrong : ChangeSpec := { name := "carryTrue", fn := fun _ => fun
  | [d1, d2, d3, d4] => { results := [.lit (.bool false)], args := [d1, d2, d3, d4] }
  | _ => none }
def CarryTrueWrongFalsely : Prop := carryTrueRow.holds Tryd.pinned (OpenSpec.ofChange carryTrueWrong)

/- THE SECOND FORM. 'bulk': how many values and letters a reading holds, each counted each time it is reached (what is shared counts as often as it is met; a slice's spare places count too). A statement '..UptoSaid' is the law's where the arguments, and the package variables that the reading takes, are together of bulk at most 1048576: NARROWER than '..Said'. Prove '..Said' where nothing that the law and all that it calls make is longer than what came in: it says more and counts as full. Else prove '..UptoSaid'. A law counts once. -/
mutual
def uptoBulk {H : Type} : DataW H → Nat
  | .lit (.string bytes) => bytes.length + 1
  | .lit _ => 1
  | .nil => 1
  | .ptr d => uptoBulk d + 1
  | .slice elems spare => uptoBulkAll elems + uptoBulkAll spare + 1
  | .agg parts => uptoBulkAll parts + 1
  | .iface _ d => uptoBulk d + 1
  | .map entries => uptoBulkEntries entries + 1
  | .held _ => 1
def uptoBulkAll {H : Type} : List (DataW H) → Nat
  | [] => 0
  | d :: r => uptoBulk d + uptoBulkAll r
def uptoBulkEntries {H : Type} : List (Lit × DataW H) → Nat
  | [] => 0
  | x :: r => uptoBulkEntry x + uptoBulkEntries r
def uptoBulkEntry {H : Type} : Lit × DataW H → Nat
  | (.string bytes, d) => bytes.length + uptoBulk d + 1
  | (_, d) => uptoBulk d + 1
 end
def uptoSmall : (H : Type) → List (DataW H) → Bool := fun _ ds => decide (uptoBulkAll ds ≤ 1048576)
def OpenSpec.upto (s : _root_.Go.ChangeSpec) : _root_.Go.OpenSpec := { _root_.Go.OpenSpec.ofChange s with cond := some uptoSmall }

/-- 'gantkeep4.SeeNarrows', WHERE WHAT IT READS IS OF BULK AT MOST 1048576: true; the input reads as it did. -/
def seeNarrowsUptoRow : OpenClaim := { program := "ytolekonocbeekaadoor", sum := "09ee79537a2cd5132e46bd5f49904e4efb63dc45abe419dfd739e5fb4bc1b3fe", func := "gantry/gantkeep4.SeeNarrows", spec := "seeNarrows", inPlace := ["math/bits.Sub64", "internal/bytealg.abigen_runtime_cmpstring"], unfollowed := true, recurses := true, named := ["math/bits.deBruijn64tab"], apart := false, laid := [("math/bits.deBruijn64tab", laid_math_bits_deBruijn64tab)], narrowed := true }
def SeeNarrowsUptoSaid : Prop := seeNarrowsUptoRow.holds Tryd.pinned (OpenSpec.upto seeNarrowsSpec)

/-- 'gantkeep4.SeeLooks', WHERE WHAT IT READS IS OF BULK AT MOST 1048576: true; the input reads as it did. -/
def seeLooksUptoRow : OpenClaim := { program := "ytolekonocbeekaadoor", sum := "09ee79537a2cd5132e46bd5f49904e4efb63dc45abe419dfd739e5fb4bc1b3fe", func := "gantry/gantkeep4.SeeLooks", spec := "seeLooks", inPlace := ["math/bits.Sub64", "internal/bytealg.abigen_runtime_cmpstring"], unfollowed := true, recurses := true, named := ["math/bits.deBruijn64tab"], apart := false, laid := [("math/bits.deBruijn64tab", laid_math_bits_deBruijn64tab)], narrowed := true }
def SeeLooksUptoSaid : Prop := seeLooksUptoRow.holds Tryd.pinned (OpenSpec.upto seeLooksSpec)

/-- 'gantkeep4.SeePoint', WHERE WHAT IT READS IS OF BULK AT MOST 1048576: true; the input reads as it did. -/
def seePointUptoRow : OpenClaim := { program := "ytolekonocbeekaadoor", sum := "09ee79537a2cd5132e46bd5f49904e4efb63dc45abe419dfd739e5fb4bc1b3fe", func := "gantry/gantkeep4.SeePoint", spec := "seePoint", inPlace := ["math/bits.Sub64", "internal/bytealg.abigen_runtime_cmpstring"], unfollowed := true, recurses := true, named := ["math/bits.deBruijn64tab"], apart := false, laid := [("math/bits.deBruijn64tab", laid_math_bits_deBruijn64tab)], narrowed := true }
def SeePointUptoSaid : Prop := seePointUptoRow.holds Tryd.pinned (OpenSpec.upto seePointSpec)

/-- 'gantkeep4.CarryBack', WHERE WHAT IT READS IS OF BULK AT MOST 1048576: true; the input reads as it did. -/
def carryBackUptoRow : OpenClaim := { program := "ytolekonocbeekaadoor", sum := "09ee79537a2cd5132e46bd5f49904e4efb63dc45abe419dfd739e5fb4bc1b3fe", func := "gantry/gantkeep4.CarryBack", spec := "carryBack", inPlace := ["math/bits.Sub64", "internal/bytealg.abigen_runtime_cmpstring"], unfollowed := true, recurses := true, named := ["math/bits.deBruijn64tab"], apart := false, laid := [("math/bits.deBruijn64tab", laid_math_bits_deBruijn64tab)], narrowed := true }
def CarryBackUptoSaid : Prop := carryBackUptoRow.holds Tryd.pinned (OpenSpec.upto carryBackSpec)

/-- 'gantkeep4.CarryWider', WHERE WHAT IT READS IS OF BULK AT MOST 1048576: true; the input reads as it did. -/
def carryWiderUptoRow : OpenClaim := { program := "ytolekonocbeekaadoor", sum := "09ee79537a2cd5132e46bd5f49904e4efb63dc45abe419dfd739e5fb4bc1b3fe", func := "gantry/gantkeep4.CarryWider", spec := "carryWider", inPlace := ["math/bits.Sub64", "internal/bytealg.abigen_runtime_cmpstring"], unfollowed := true, recurses := true, named := ["math/bits.deBruijn64tab"], apart := false, laid := [("math/bits.deBruijn64tab", laid_math_bits_deBruijn64tab)], narrowed := true }
def CarryWiderUptoSaid : Prop := carryWiderUptoRow.holds Tryd.pinned (OpenSpec.upto carryWiderSpec)

/-- 'gantkeep4.CarryLooks', WHERE WHAT IT READS IS OF BULK AT MOST 1048576: true; the input reads as it did. -/
def carryLooksUptoRow : OpenClaim := { program := "ytolekonocbeekaadoor", sum := "09ee79537a2cd5132e46bd5f49904e4efb63dc45abe419dfd739e5fb4bc1b3fe", func := "gantry/gantkeep4.CarryLooks", spec := "carryLooks", inPlace := ["math/bits.Sub64", "internal/bytealg.abigen_runtime_cmpstring"], unfollowed := true, recurses := true, named := ["math/bits.deBruijn64tab"], apart := false, laid := [("math/bits.deBruijn64tab", laid_math_bits_deBruijn64tab)], narrowed := true }
def CarryLooksUptoSaid : Prop := carryLooksUptoRow.holds Tryd.pinned (OpenSpec.upto carryLooksSpec)

/-- 'gantkeep4.CarryTrue', WHERE WHAT IT READS IS OF BULK AT MOST 1048576: true; the input reads as it did. -/
def carryTrueUptoRow : OpenClaim := { program := "ytolekonocbeekaadoor", sum := "09ee79537a2cd5132e46bd5f49904e4efb63dc45abe419dfd739e5fb4bc1b3fe", func := "gantry/gantkeep4.CarryTrue", spec := "carryTrue", inPlace := ["math/bits.Sub64", "internal/bytealg.abigen_runtime_cmpstring"], unfollowed := true, recurses := true, named := ["math/bits.deBruijn64tab"], apart := false, laid := [("math/bits.deBruijn64tab", laid_math_bits_deBruijn64tab)], narrowed := true }
def CarryTrueUptoSaid : Prop := carryTrueUptoRow.holds Tryd.pinned (OpenSpec.upto carryTrueSpec)

end Rows
end Go.Proofs.YtolekonocbeekaaDoor
