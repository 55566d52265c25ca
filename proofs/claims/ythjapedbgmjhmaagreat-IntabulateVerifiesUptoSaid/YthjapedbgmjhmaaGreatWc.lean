/-
 Known calls of the chapter's example,part of c. Printed by a program.
 Own work. No Go text.
-/
import Derived.Test.YthjapedbgmjhmaaGreatMm
import Derived.Test.YthjapedbgmjhmaaGreatProg
namespace Go.Proofs.YthjapedbgmjhmaaGreat
open Go Go.Am
set_option maxRecDepth 100000
set_option linter.all false
theorem mC_0 : enters Tryz.prog 37 = true ∧ APure Tryz.prog 37 [.agg [.sl true [.i (0),.i (1),.i (2),.i (3)],.sl true [.i (0),.i (2),.i (3),.i (4)],.sl true [.bool true,.bool false,.bool false,.bool false],.i (12),.i (7),.i (2),.i (3),.i (4),.i (2),.i (1)]] (.i (0)) := ⟨by kernel_rfl,apure_run noOra_ok 3000 60 rfl rfl (by kernel_rfl)⟩
theorem mC_1 : enters Tryz.prog 36 = true ∧ APure Tryz.prog 36 [.sl true [.sl true [.agg [.i (67),.i (0),.i (192)]],.sl true [.agg [.i (67),.i (0),.i (96)],.agg [.i (60),.i (96),.i (192)]]],.agg [.sl false [.agg [.i (67),.i (8),.bool false],.agg [.i (62),.i (8),.bool false],.agg [.i (57),.i (8),.bool false],.agg [.i (53),.i (8),.bool true],.agg [.i (48),.i (8),.bool true],.agg [.i (43),.i (8),.bool true]],.sl false [.i (1),.i (2),.i (3),.i (4),.i (5),.i (6),.i (7),.i (8)]]] (.i (0)) := ⟨by kernel_rfl,apure_run noOra_ok 3000 60 rfl rfl (by kernel_rfl)⟩
def mC : Memo := [(37,[.agg [.sl true [.i (0),.i (1),.i (2),.i (3)],.sl true [.i (0),.i (2),.i (3),.i (4)],.sl true [.bool true,.bool false,.bool false,.bool false],.i (12),.i (7),.i (2),.i (3),.i (4),.i (2),.i (1)]],.i (0)),
 (36,[.sl true [.sl true [.agg [.i (67),.i (0),.i (192)]],.sl true [.agg [.i (67),.i (0),.i (96)],.agg [.i (60),.i (96),.i (192)]]],.agg [.sl false [.agg [.i (67),.i (8),.bool false],.agg [.i (62),.i (8),.bool false],.agg [.i (57),.i (8),.bool false],.agg [.i (53),.i (8),.bool true],.agg [.i (48),.i (8),.bool true],.agg [.i (43),.i (8),.bool true]],.sl false [.i (1),.i (2),.i (3),.i (4),.i (5),.i (6),.i (7),.i (8)]]],.i (0))]
theorem mC_ok : MemOk Tryz.prog mC := ⟨mC_0,⟨mC_1,trivial⟩⟩
end Go.Proofs.YthjapedbgmjhmaaGreat
