/-
 Known calls of the chapter's example,part of a. Printed by a program.
 Own work. No Go text.
-/
import Derived.Test.YthjapedbgmjhmaaGreatMm
import Derived.Test.YthjapedbgmjhmaaGreatProg
namespace Go.Proofs.YthjapedbgmjhmaaGreat
open Go Go.Am
set_option maxRecDepth 100000
set_option linter.all false
theorem mA_0 : enters Tryz.prog 78 = true ∧ APure Tryz.prog 78 [.agg [.i (2),.bool false,.bool true]] (.i (128)) := ⟨by kernel_rfl,apure_run noOra_ok 3000 60 rfl rfl (by kernel_rfl)⟩
theorem mA_1 : enters Tryz.prog 78 = true ∧ APure Tryz.prog 78 [.agg [.i (4),.bool true,.bool false]] (.i (72)) := ⟨by kernel_rfl,apure_run noOra_ok 3000 60 rfl rfl (by kernel_rfl)⟩
theorem mA_2 : enters Tryz.prog 78 = true ∧ APure Tryz.prog 78 [.agg [.i (6),.bool false,.bool false]] (.i (12)) := ⟨by kernel_rfl,apure_run noOra_ok 3000 60 rfl rfl (by kernel_rfl)⟩
theorem mA_3 : enters Tryz.prog 78 = true ∧ APure Tryz.prog 78 [.agg [.i (1),.bool false,.bool false]] (.i (384)) := ⟨by kernel_rfl,apure_run noOra_ok 3000 60 rfl rfl (by kernel_rfl)⟩
theorem mA_4 : enters Tryz.prog 78 = true ∧ APure Tryz.prog 78 [.agg [.i (1),.bool true,.bool false]] (.i (576)) := ⟨by kernel_rfl,apure_run noOra_ok 3000 60 rfl rfl (by kernel_rfl)⟩
theorem mA_5 : enters Tryz.prog 78 = true ∧ APure Tryz.prog 78 [.agg [.i (1),.bool false,.bool true]] (.i (256)) := ⟨by kernel_rfl,apure_run noOra_ok 3000 60 rfl rfl (by kernel_rfl)⟩
theorem mA_6 : enters Tryz.prog 78 = true ∧ APure Tryz.prog 78 [.agg [.i (2),.bool false,.bool false]] (.i (192)) := ⟨by kernel_rfl,apure_run noOra_ok 3000 60 rfl rfl (by kernel_rfl)⟩
theorem mA_7 : enters Tryz.prog 78 = true ∧ APure Tryz.prog 78 [.agg [.i (2),.bool true,.bool false]] (.i (288)) := ⟨by kernel_rfl,apure_run noOra_ok 3000 60 rfl rfl (by kernel_rfl)⟩
theorem mA_8 : enters Tryz.prog 78 = true ∧ APure Tryz.prog 78 [.agg [.i (3),.bool false,.bool false]] (.i (96)) := ⟨by kernel_rfl,apure_run noOra_ok 3000 60 rfl rfl (by kernel_rfl)⟩
theorem mA_9 : enters Tryz.prog 78 = true ∧ APure Tryz.prog 78 [.agg [.i (3),.bool true,.bool false]] (.i (144)) := ⟨by kernel_rfl,apure_run noOra_ok 3000 60 rfl rfl (by kernel_rfl)⟩
theorem mA_10 : enters Tryz.prog 78 = true ∧ APure Tryz.prog 78 [.agg [.i (3),.bool false,.bool true]] (.i (64)) := ⟨by kernel_rfl,apure_run noOra_ok 3000 60 rfl rfl (by kernel_rfl)⟩
theorem mA_11 : enters Tryz.prog 78 = true ∧ APure Tryz.prog 78 [.agg [.i (7),.bool false,.bool true]] (.i (4)) := ⟨by kernel_rfl,apure_run noOra_ok 3000 60 rfl rfl (by kernel_rfl)⟩
theorem mA_12 : enters Tryz.prog 78 = true ∧ APure Tryz.prog 78 [.agg [.i (7),.bool true,.bool false]] (.i (9)) := ⟨by kernel_rfl,apure_run noOra_ok 3000 60 rfl rfl (by kernel_rfl)⟩
theorem mA_13 : enters Tryz.prog 78 = true ∧ APure Tryz.prog 78 [.agg [.i (7),.bool false,.bool false]] (.i (6)) := ⟨by kernel_rfl,apure_run noOra_ok 3000 60 rfl rfl (by kernel_rfl)⟩
theorem mA_14 : enters Tryz.prog 78 = true ∧ APure Tryz.prog 78 [.agg [.i (6),.bool false,.bool true]] (.i (8)) := ⟨by kernel_rfl,apure_run noOra_ok 3000 60 rfl rfl (by kernel_rfl)⟩
theorem mA_15 : enters Tryz.prog 78 = true ∧ APure Tryz.prog 78 [.agg [.i (6),.bool true,.bool false]] (.i (18)) := ⟨by kernel_rfl,apure_run noOra_ok 3000 60 rfl rfl (by kernel_rfl)⟩
theorem mA_16 : enters Tryz.prog 78 = true ∧ APure Tryz.prog 78 [.agg [.i (5),.bool false,.bool true]] (.i (16)) := ⟨by kernel_rfl,apure_run noOra_ok 3000 60 rfl rfl (by kernel_rfl)⟩
theorem mA_17 : enters Tryz.prog 78 = true ∧ APure Tryz.prog 78 [.agg [.i (5),.bool true,.bool false]] (.i (36)) := ⟨by kernel_rfl,apure_run noOra_ok 3000 60 rfl rfl (by kernel_rfl)⟩
theorem mA_18 : enters Tryz.prog 78 = true ∧ APure Tryz.prog 78 [.agg [.i (5),.bool false,.bool false]] (.i (24)) := ⟨by kernel_rfl,apure_run noOra_ok 3000 60 rfl rfl (by kernel_rfl)⟩
theorem mA_19 : enters Tryz.prog 78 = true ∧ APure Tryz.prog 78 [.agg [.i (4),.bool false,.bool true]] (.i (32)) := ⟨by kernel_rfl,apure_run noOra_ok 3000 60 rfl rfl (by kernel_rfl)⟩
theorem mA_20 : enters Tryz.prog 78 = true ∧ APure Tryz.prog 78 [.agg [.i (4),.bool false,.bool false]] (.i (48)) := ⟨by kernel_rfl,apure_run noOra_ok 3000 60 rfl rfl (by kernel_rfl)⟩
def mA : Memo := [(78,[.agg [.i (2),.bool false,.bool true]],.i (128)),
 (78,[.agg [.i (4),.bool true,.bool false]],.i (72)),
 (78,[.agg [.i (6),.bool false,.bool false]],.i (12)),
 (78,[.agg [.i (1),.bool false,.bool false]],.i (384)),
 (78,[.agg [.i (1),.bool true,.bool false]],.i (576)),
 (78,[.agg [.i (1),.bool false,.bool true]],.i (256)),
 (78,[.agg [.i (2),.bool false,.bool false]],.i (192)),
 (78,[.agg [.i (2),.bool true,.bool false]],.i (288)),
 (78,[.agg [.i (3),.bool false,.bool false]],.i (96)),
 (78,[.agg [.i (3),.bool true,.bool false]],.i (144)),
 (78,[.agg [.i (3),.bool false,.bool true]],.i (64)),
 (78,[.agg [.i (7),.bool false,.bool true]],.i (4)),
 (78,[.agg [.i (7),.bool true,.bool false]],.i (9)),
 (78,[.agg [.i (7),.bool false,.bool false]],.i (6)),
 (78,[.agg [.i (6),.bool false,.bool true]],.i (8)),
 (78,[.agg [.i (6),.bool true,.bool false]],.i (18)),
 (78,[.agg [.i (5),.bool false,.bool true]],.i (16)),
 (78,[.agg [.i (5),.bool true,.bool false]],.i (36)),
 (78,[.agg [.i (5),.bool false,.bool false]],.i (24)),
 (78,[.agg [.i (4),.bool false,.bool true]],.i (32)),
 (78,[.agg [.i (4),.bool false,.bool false]],.i (48))]
theorem mA_ok : MemOk Tryz.prog mA := ⟨mA_0,⟨mA_1,⟨mA_2,⟨mA_3,⟨mA_4,⟨mA_5,⟨mA_6,⟨mA_7,⟨mA_8,⟨mA_9,⟨mA_10,⟨mA_11,⟨mA_12,⟨mA_13,⟨mA_14,⟨mA_15,⟨mA_16,⟨mA_17,⟨mA_18,⟨mA_19,⟨mA_20,trivial⟩⟩⟩⟩⟩⟩⟩⟩⟩⟩⟩⟩⟩⟩⟩⟩⟩⟩⟩⟩⟩
end Go.Proofs.YthjapedbgmjhmaaGreat
