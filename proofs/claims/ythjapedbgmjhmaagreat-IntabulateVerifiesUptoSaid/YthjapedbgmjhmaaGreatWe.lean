/-
 Known calls of the chapter's example,part of e. Printed by a program.
 Own work. No Go text.
-/
import Derived.Test.YthjapedbgmjhmaaGreatWd
namespace Go.Proofs.YthjapedbgmjhmaaGreat
open Go Go.Am
set_option maxRecDepth 100000
set_option linter.all false
theorem mE_0 : enters Tryz.prog 15 = true ∧ APure Tryz.prog 15 [] (.agg [.sl false [.agg [.i (67),.i (8),.bool false],.agg [.i (62),.i (8),.bool false],.agg [.i (57),.i (8),.bool false],.agg [.i (53),.i (8),.bool true],.agg [.i (48),.i (8),.bool true],.agg [.i (43),.i (8),.bool true]],.sl false [.i (1),.i (2),.i (3),.i (4),.i (5),.i (6),.i (7),.i (8)]]) := ⟨by kernel_rfl,apure_run (memOra_ok mD_ok) 3000 60 rfl rfl (by kernel_rfl)⟩
def mE : Memo := [(15,[],.agg [.sl false [.agg [.i (67),.i (8),.bool false],.agg [.i (62),.i (8),.bool false],.agg [.i (57),.i (8),.bool false],.agg [.i (53),.i (8),.bool true],.agg [.i (48),.i (8),.bool true],.agg [.i (43),.i (8),.bool true]],.sl false [.i (1),.i (2),.i (3),.i (4),.i (5),.i (6),.i (7),.i (8)]])]
theorem mE_ok : MemOk Tryz.prog mE := ⟨mE_0,trivial⟩
end Go.Proofs.YthjapedbgmjhmaaGreat
