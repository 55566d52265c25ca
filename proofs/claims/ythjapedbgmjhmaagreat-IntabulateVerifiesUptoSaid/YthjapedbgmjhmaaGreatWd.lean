/-
 Known calls of the chapter's example,part of d. Printed by a program.
 Own work. No Go text.
-/
import Derived.Test.YthjapedbgmjhmaaGreatMm
import Derived.Test.YthjapedbgmjhmaaGreatProg
namespace Go.Proofs.YthjapedbgmjhmaaGreat
open Go Go.Am
set_option maxRecDepth 100000
set_option linter.all false
theorem mD_0 : enters Tryz.prog 140 = true ∧ APure Tryz.prog 140 [.str ⟨#[71,52,47,56]⟩] (.tup [.agg [.i (67),.i (8),.bool false],.i (0)]) := ⟨by kernel_rfl,apure_run noOra_ok 3000 60 rfl rfl (by kernel_rfl)⟩
theorem mD_1 : enters Tryz.prog 140 = true ∧ APure Tryz.prog 140 [.str ⟨#[68,52,47,56]⟩] (.tup [.agg [.i (62),.i (8),.bool false],.i (0)]) := ⟨by kernel_rfl,apure_run noOra_ok 3000 60 rfl rfl (by kernel_rfl)⟩
theorem mD_2 : enters Tryz.prog 140 = true ∧ APure Tryz.prog 140 [.str ⟨#[65,51,47,56]⟩] (.tup [.agg [.i (57),.i (8),.bool false],.i (0)]) := ⟨by kernel_rfl,apure_run noOra_ok 3000 60 rfl rfl (by kernel_rfl)⟩
theorem mD_3 : enters Tryz.prog 140 = true ∧ APure Tryz.prog 140 [.str ⟨#[70,51,47,56,43]⟩] (.tup [.agg [.i (53),.i (8),.bool true],.i (0)]) := ⟨by kernel_rfl,apure_run noOra_ok 3000 60 rfl rfl (by kernel_rfl)⟩
theorem mD_4 : enters Tryz.prog 140 = true ∧ APure Tryz.prog 140 [.str ⟨#[67,51,47,56,43]⟩] (.tup [.agg [.i (48),.i (8),.bool true],.i (0)]) := ⟨by kernel_rfl,apure_run noOra_ok 3000 60 rfl rfl (by kernel_rfl)⟩
theorem mD_5 : enters Tryz.prog 140 = true ∧ APure Tryz.prog 140 [.str ⟨#[71,50,47,56,43]⟩] (.tup [.agg [.i (43),.i (8),.bool true],.i (0)]) := ⟨by kernel_rfl,apure_run noOra_ok 3000 60 rfl rfl (by kernel_rfl)⟩
def mD : Memo := [(140,[.str ⟨#[71,52,47,56]⟩],.tup [.agg [.i (67),.i (8),.bool false],.i (0)]),
 (140,[.str ⟨#[68,52,47,56]⟩],.tup [.agg [.i (62),.i (8),.bool false],.i (0)]),
 (140,[.str ⟨#[65,51,47,56]⟩],.tup [.agg [.i (57),.i (8),.bool false],.i (0)]),
 (140,[.str ⟨#[70,51,47,56,43]⟩],.tup [.agg [.i (53),.i (8),.bool true],.i (0)]),
 (140,[.str ⟨#[67,51,47,56,43]⟩],.tup [.agg [.i (48),.i (8),.bool true],.i (0)]),
 (140,[.str ⟨#[71,50,47,56,43]⟩],.tup [.agg [.i (43),.i (8),.bool true],.i (0)])]
theorem mD_ok : MemOk Tryz.prog mD := ⟨mD_0,⟨mD_1,⟨mD_2,⟨mD_3,⟨mD_4,⟨mD_5,trivial⟩⟩⟩⟩⟩⟩
end Go.Proofs.YthjapedbgmjhmaaGreat
