/-
 Known calls of the chapter's example,part of a. Printed by a program.
 Own work. No Go text.
-/
import Derived.Test.YtodkhgjhodmeoaaGreatMm
import Derived.Test.YtodkhgjhodmeoaaGreatProg
namespace Go.Proofs.YtodkhgjhodmeoaaGreat
open Go Go.Am
set_option maxRecDepth 100000
set_option linter.all false
end Go.Proofs.YtodkhgjhodmeoaaGreat
