/-
 The chapter's example,carried out by the kernel.
 Own work. No Go text.
-/
import Derived.Test.YthjapedbgmjhmaaGreatWg
import Derived.Test.YthjapedbgmjhmaaGreatWe
import Derived.Test.YthjapedbgmjhmaaGreatWc
set_option linter.all false
namespace Go.Proofs.YthjapedbgmjhmaaGreat
open Go Go.Am
set_option maxRecDepth 100000
theorem mAll : MemOk Tryz.prog (mF ++ (mE ++ mC)) := MemOk.app mF_ok (MemOk.app mE_ok mC_ok)
theorem works_ok : APure Tryz.prog 5 [] (.bool true) := apure rfl rfl (acalls_true (memOra_ok mAll) 3000 60 (by kernel_rfl))
end Go.Proofs.YthjapedbgmjhmaaGreat
