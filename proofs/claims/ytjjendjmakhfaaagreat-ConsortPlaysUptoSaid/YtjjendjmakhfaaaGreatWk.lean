/-
 The chapter's example,carried out by the kernel.
 Own work. No Go text.
-/
import Derived.Test.YtjjendjmakhfaaaGreatOr
set_option linter.all false
namespace Go.Proofs.YtjjendjmakhfaaaGreat
open Go Go.Am
set_option maxRecDepth 100000
theorem works_ok : APure Tryz.prog 6 [] (.bool true) := apure rfl rfl (acalls_true ora116_ok 300 60 (by kernel_rfl))
end Go.Proofs.YtjjendjmakhfaaaGreat
