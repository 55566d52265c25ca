/-
 Known calls of the chapter's example,part of b. Printed by a program.
 Own work. No Go text.
-/
import Derived.Test.YtodkhgjhodmeoaaGreatWa
namespace Go.Proofs.YtodkhgjhodmeoaaGreat
open Go Go.Am
set_option maxRecDepth 100000
set_option linter.all false
theorem mB_0 : enters Tryz.prog 128 = true ∧ APure Tryz.prog 128 [] (.sl false [.agg [.i (1),.bool true,.bool false],.agg [.i (1),.bool false,.bool false],.agg [.i (2),.bool true,.bool false],.agg [.i (1),.bool false,.bool true],.agg [.i (2),.bool false,.bool false],.agg [.i (3),.bool true,.bool false],.agg [.i (2),.bool false,.bool true],.agg [.i (3),.bool false,.bool false],.agg [.i (4),.bool true,.bool false],.agg [.i (3),.bool false,.bool true],.agg [.i (4),.bool false,.bool false],.agg [.i (5),.bool true,.bool false],.agg [.i (4),.bool false,.bool true],.agg [.i (5),.bool false,.bool false],.agg [.i (6),.bool true,.bool false],.agg [.i (5),.bool false,.bool true],.agg [.i (6),.bool false,.bool false],.agg [.i (7),.bool true,.bool false],.agg [.i (6),.bool false,.bool true],.agg [.i (7),.bool false,.bool false],.agg [.i (7),.bool false,.bool true]]) := ⟨by kernel_rfl,apure_run (memOra_ok mA_ok) 3000 60 rfl rfl (by kernel_rfl)⟩
end Go.Proofs.YtodkhgjhodmeoaaGreat
