/-
 Known calls of the chapter's example,part of b. Printed by a program.
 Own work. No Go text.
-/
import Derived.Test.YtodkhgjhodmeoaaGreatWa
namespace Go.Proofs.YtodkhgjhodmeoaaGreat
open Go Go.Am
set_option maxRecDepth 100000
set_option linter.all false
end Go.Proofs.YtodkhgjhodmeoaaGreat
