/-
 Known calls of the chapter's example,part of b. Printed by a program.
 Own work. No Go text.
-/
import Derived.Test.YthjapedbgmjhmaaGreatWa
namespace Go.Proofs.YthjapedbgmjhmaaGreat
open Go Go.Am
set_option maxRecDepth 100000
set_option linter.all false
theorem mB_0 : enters Tryz.prog 77 = true ∧ APure Tryz.prog 77 [] (.sl false [.agg [.i (1),.bool true,.bool false],.agg [.i (1),.bool false,.bool false],.agg [.i (2),.bool true,.bool false],.agg [.i (1),.bool false,.bool true],.agg [.i (2),.bool false,.bool false],.agg [.i (3),.bool true,.bool false],.agg [.i (2),.bool false,.bool true],.agg [.i (3),.bool false,.bool false],.agg [.i (4),.bool true,.bool false],.agg [.i (3),.bool false,.bool true],.agg [.i (4),.bool false,.bool false],.agg [.i (5),.bool true,.bool false],.agg [.i (4),.bool false,.bool true],.agg [.i (5),.bool false,.bool false],.agg [.i (6),.bool true,.bool false],.agg [.i (5),.bool false,.bool true],.agg [.i (6),.bool false,.bool false],.agg [.i (7),.bool true,.bool false],.agg [.i (6),.bool false,.bool true],.agg [.i (7),.bool false,.bool false],.agg [.i (7),.bool false,.bool true]]) := ⟨by kernel_rfl,apure_run (memOra_ok mA_ok) 3000 60 rfl rfl (by kernel_rfl)⟩
def mB : Memo := [(77,[],.sl false [.agg [.i (1),.bool true,.bool false],.agg [.i (1),.bool false,.bool false],.agg [.i (2),.bool true,.bool false],.agg [.i (1),.bool false,.bool true],.agg [.i (2),.bool false,.bool false],.agg [.i (3),.bool true,.bool false],.agg [.i (2),.bool false,.bool true],.agg [.i (3),.bool false,.bool false],.agg [.i (4),.bool true,.bool false],.agg [.i (3),.bool false,.bool true],.agg [.i (4),.bool false,.bool false],.agg [.i (5),.bool true,.bool false],.agg [.i (4),.bool false,.bool true],.agg [.i (5),.bool false,.bool false],.agg [.i (6),.bool true,.bool false],.agg [.i (5),.bool false,.bool true],.agg [.i (6),.bool false,.bool false],.agg [.i (7),.bool true,.bool false],.agg [.i (6),.bool false,.bool true],.agg [.i (7),.bool false,.bool false],.agg [.i (7),.bool false,.bool true]])]
theorem mB_ok : MemOk Tryz.prog mB := ⟨mB_0,trivial⟩
end Go.Proofs.YthjapedbgmjhmaaGreat
