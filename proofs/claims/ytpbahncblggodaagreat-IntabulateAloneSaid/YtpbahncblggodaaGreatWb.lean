/-
  The signs: carried out by the kernel.
  Own work. No Go text.
-/
import Derived.Test.YtpbahncblggodaaGreatMm
import Derived.Test.YtpbahncblggodaaGreatProg
namespace Go.Proofs.YtpbahncblggodaaGreat
open Go Go.Am
set_option maxRecDepth 100000
set_option linter.all false
theorem mB_0:enters Tryz.prog 92=true/\APure Tryz.prog 92 [] (.sl false [.agg [.i (1),.bool true,.bool false],.agg [.i (1),.bool false,.bool false],.agg [.i (2),.bool true,.bool false],.agg [.i (1),.bool false,.bool true],.agg [.i (2),.bool false,.bool false],.agg [.i (3),.bool true,.bool false],.agg [.i (2),.bool false,.bool true],.agg [.i (3),.bool false,.bool false],.agg [.i (4),.bool true,.bool false],.agg [.i (3),.bool false,.bool true],.agg [.i (4),.bool false,.bool false],.agg [.i (5),.bool true,.bool false],.agg [.i (4),.bool false,.bool true],.agg [.i (5),.bool false,.bool false],.agg [.i (6),.bool true,.bool false],.agg [.i (5),.bool false,.bool true],.agg [.i (6),.bool false,.bool false],.agg [.i (7),.bool true,.bool false],.agg [.i (6),.bool false,.bool true],.agg [.i (7),.bool false,.bool false],.agg [.i (7),.bool false,.bool true]]):=⟨by kernel_rfl,apure_run noOra_ok 3000 60 rfl rfl (by kernel_rfl)⟩
theorem mL_0:enters Tryz.prog 36=true/\APure Tryz.prog 36 [] (.agg [.sl false [.agg [.i (67),.i (8),.bool false],.agg [.i (62),.i (8),.bool false],.agg [.i (57),.i (8),.bool false],.agg [.i (53),.i (8),.bool true],.agg [.i (48),.i (8),.bool true],.agg [.i (43),.i (8),.bool true]],.sl false [.i (1),.i (2),.i (3),.i (4),.i (5),.i (6),.i (7),.i (8)]]):=⟨by kernel_rfl,apure_run noOra_ok 3000 60 rfl rfl (by kernel_rfl)⟩
end Go.Proofs.YtpbahncblggodaaGreat
