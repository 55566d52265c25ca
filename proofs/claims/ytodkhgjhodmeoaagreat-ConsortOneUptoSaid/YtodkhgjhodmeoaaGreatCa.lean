/-
 Plain laws of ConsortChecks,part a: the program and the reference check a piece alike,and give the same onsets.
 Own work. No Go text.
-/
import Derived.Test.YtodkhgjhodmeoaaGreatPn
set_option linter.all false
namespace Go.Proofs.YtodkhgjhodmeoaaGreat
open Go Go.Am
end Go.Proofs.YtodkhgjhodmeoaaGreat
