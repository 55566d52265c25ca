/-
 The chapter's example,carried out by the kernel.
 Own work. No Go text.
-/
import Derived.Test.YtodkhgjhodmeoaaOr
set_option linter.all false
namespace Go.Proofs.Ytodkhgjhodmeoaa
open Go Go.Am
set_option maxRecDepth 100000
theorem works_ok : APure Try.prog 5 [] (.bool true) := apure rfl rfl (acalls_true ora75_ok 300 60 (by kernel_rfl))
end Go.Proofs.Ytodkhgjhodmeoaa
