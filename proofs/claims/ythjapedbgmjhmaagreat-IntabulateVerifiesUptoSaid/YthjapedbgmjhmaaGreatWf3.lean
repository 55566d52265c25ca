/-
 Signs of 96: some rounds of its loop. Printed by a program.
 Own work. No Go text.
-/
import Derived.Test.YthjapedbgmjhmaaGreatWf
namespace Go.Proofs.YthjapedbgmjhmaaGreat
open Go Go.Am
set_option maxRecDepth 100000
set_option linter.all false
theorem ch9 : iter 0 r74 ks74 8 1515 le9 ls9 = some (1683,le10,ls10) := by kernel_rfl
theorem ch10 : iter 0 r74 ks74 8 1683 le10 ls10 = some (1851,le11,ls11) := by kernel_rfl
theorem ch11 : iter 0 r74 ks74 8 1851 le11 ls11 = some (2019,le12,ls12) := by kernel_rfl
end Go.Proofs.YthjapedbgmjhmaaGreat
