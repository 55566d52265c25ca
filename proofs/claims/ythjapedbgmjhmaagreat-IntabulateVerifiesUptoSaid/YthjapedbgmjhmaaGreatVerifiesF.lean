/-
 The closed facts of the row of 'IntabulateVerifies' (piece by piece: the whole at once takes too much memory).
-/
import Derived.Test.YthjapedbgmjhmaaGreatRows
import Derived.JoinedOf
namespace Go.Proofs.YthjapedbgmjhmaaGreat
open Go
set_option maxRecDepth 100000
theorem intabulateVerifies_f1 : (Rows.intabulateVerifiesUptoRow.inPlace == Tryz.checked.prog.inPlace 3) = true := by kernel_rfl
theorem intabulateVerifies_f2 : (Rows.intabulateVerifiesUptoRow.unfollowed == Tryz.checked.prog.unfollowed 3) = true := by kernel_rfl
theorem intabulateVerifies_f3 : (Rows.intabulateVerifiesUptoRow.recurses == Tryz.checked.prog.recurses 3) = true := by kernel_rfl
theorem intabulateVerifies_f4 : (Rows.intabulateVerifiesUptoRow.named == Tryz.checked.prog.varsNamed 3) = true := by kernel_rfl
theorem intabulateVerifies_facts : joinedFacts Tryz.checked.prog 3 Tryz.f3 (Rows.OpenSpec.upto Rows.intabulateVerifiesSpec).bare Rows.intabulateVerifiesUptoRow = true := by
 unfold joinedFacts
 rw [intabulateVerifies_f1,intabulateVerifies_f2,intabulateVerifies_f3,intabulateVerifies_f4]
 kernel_rfl
end Go.Proofs.YthjapedbgmjhmaaGreat
