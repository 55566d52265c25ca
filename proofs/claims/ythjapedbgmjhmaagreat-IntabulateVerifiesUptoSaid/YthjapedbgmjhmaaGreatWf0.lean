/-
 Signs of 96: some rounds of its loop. Printed by a program.
 Own work. No Go text.
-/
import Derived.Test.YthjapedbgmjhmaaGreatWf
namespace Go.Proofs.YthjapedbgmjhmaaGreat
open Go Go.Am
set_option maxRecDepth 100000
set_option linter.all false
theorem ch0 : iter 0 r74 ks74 8 3 le0 ls0 = some (171,le1,ls1) := by kernel_rfl
theorem ch1 : iter 0 r74 ks74 8 171 le1 ls1 = some (339,le2,ls2) := by kernel_rfl
theorem ch2 : iter 0 r74 ks74 8 339 le2 ls2 = some (507,le3,ls3) := by kernel_rfl
end Go.Proofs.YthjapedbgmjhmaaGreat
