/-
 Plain laws of ConsortChecks,part f: the program and the reference choose the same signs.
 Own work. No Go text.
-/
import Derived.Test.YtodkhgjhodmeoaaGreatCe
set_option linter.all false
namespace Go.Proofs.YtodkhgjhodmeoaaGreat
open Go Go.Am
section
variable {L : List Int} {n : Nat} {v : Int} {R : List Int}
end
end Go.Proofs.YtodkhgjhodmeoaaGreat
