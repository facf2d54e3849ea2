/- Messages and what the net keeps: no walk. Printed by gen/clk.py. -/
import Derived.Test.YthepafendopfhaaHmA
namespace Go.Proofs.Ythepafendopfhaa
open Go.RowKit
set_option linter.unusedVariables false
set_option maxRecDepth 100000

structure Ms where
  i : Int
  s : Int
  c : Int
def Ms.cells (x : Ms) : List Value := [.int .i64 3, .int .i64 x.i, .int .i64 4, .int .i64 x.s, .int .u32 x.c, .slice none 0 0]
theorem Ms.len (x : Ms) : x.cells.length = 6 := rfl
structure Sn where
  due : Int
  m : Ms
def Sn.cells (x : Sn) : List Value := .int .i64 x.due :: x.m.cells
theorem Sn.len (x : Sn) : x.cells.length = 7 := rfl
theorem rSnt : RowT Try.prog 61 7 := ⟨⟨_, Try.underlying61, rfl⟩, by kernel_rfl⟩
theorem zSnt : (Try.prog.info? 61).bind (·.zero) = some (.agg #[.int .i64 0, .int .i64 0, .int .i64 0, .int .i64 0, .int .i64 0, .int .u32 0, .slice none 0 0]) := by kernel_rfl
theorem iSnt : InfoT Try.prog 61 7 72 := .of zSnt (by kernel_rfl) rfl
theorem iMsg : InfoT Try.prog 39 6 64 := .of zMsg (by kernel_rfl) rfl
theorem sInt : (Try.prog.info? 3).map (·.size) = some 1 := by kernel_rfl
theorem sSnl : (Try.prog.info? 57).map (·.size) = some 1 := by kernel_rfl
theorem kSnl : ∃ d, Try.prog.underlying 57 = some d ∧ d.isRow = false := ⟨_, Try.underlying57, rfl⟩
end Go.Proofs.Ythepafendopfhaa
