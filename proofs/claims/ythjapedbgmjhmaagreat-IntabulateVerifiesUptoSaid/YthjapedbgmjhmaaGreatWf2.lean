/-
 Signs of 96: some rounds of its loop. Printed by a program.
 Own work. No Go text.
-/
import Derived.Test.YthjapedbgmjhmaaGreatWf
namespace Go.Proofs.YthjapedbgmjhmaaGreat
open Go Go.Am
set_option maxRecDepth 100000
set_option linter.all false
theorem ch6 : iter 0 r74 ks74 8 1011 le6 ls6 = some (1179,le7,ls7) := by kernel_rfl
theorem ch7 : iter 0 r74 ks74 8 1179 le7 ls7 = some (1347,le8,ls8) := by kernel_rfl
theorem ch8 : iter 0 r74 ks74 8 1347 le8 ls8 = some (1515,le9,ls9) := by kernel_rfl
end Go.Proofs.YthjapedbgmjhmaaGreat
