/-
 Signs of 96: some rounds of its loop. Printed by a program.
 Own work. No Go text.
-/
import Derived.Test.YthjapedbgmjhmaaGreatWf
namespace Go.Proofs.YthjapedbgmjhmaaGreat
open Go Go.Am
set_option maxRecDepth 100000
set_option linter.all false
theorem ch3 : iter 0 r74 ks74 8 507 le3 ls3 = some (675,le4,ls4) := by kernel_rfl
theorem ch4 : iter 0 r74 ks74 8 675 le4 ls4 = some (843,le5,ls5) := by kernel_rfl
theorem ch5 : iter 0 r74 ks74 8 843 le5 ls5 = some (1011,le6,ls6) := by kernel_rfl
end Go.Proofs.YthjapedbgmjhmaaGreat
