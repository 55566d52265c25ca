/-
 Functions of the program as Lean functions,and the walks. Written by a program of ours.
-/
import Derived.Test.YtodkhgjhodmeoaaGreatV4a
namespace Go.Proofs.YtodkhgjhodmeoaaGreat
open Go Go.Am
set_option maxRecDepth 100000
set_option linter.all false
end Go.Proofs.YtodkhgjhodmeoaaGreat
