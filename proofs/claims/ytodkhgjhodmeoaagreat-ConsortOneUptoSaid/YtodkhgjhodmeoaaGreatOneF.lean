/-
 The closed facts of the row of 'ConsortOne' (piece by piece: the whole at once takes too much memory).
-/
import Derived.Test.YtodkhgjhodmeoaaGreatRows
import Derived.JoinedOf
namespace Go.Proofs.YtodkhgjhodmeoaaGreat
open Go
set_option maxRecDepth 100000
theorem consortOne_f1 : (Rows.consortOneUptoRow.inPlace == Tryz.checked.prog.inPlace 6) = true := by kernel_rfl
theorem consortOne_f2 : (Rows.consortOneUptoRow.unfollowed == Tryz.checked.prog.unfollowed 6) = true := by kernel_rfl
theorem consortOne_f3 : (Rows.consortOneUptoRow.recurses == Tryz.checked.prog.recurses 6) = true := by kernel_rfl
theorem consortOne_f4 : (Rows.consortOneUptoRow.named == Tryz.checked.prog.varsNamed 6) = true := by kernel_rfl
theorem consortOne_facts : joinedFacts Tryz.checked.prog 6 Tryz.f6 (Rows.OpenSpec.upto Rows.consortOneSpec).bare Rows.consortOneUptoRow = true := by
 unfold joinedFacts
 rw [consortOne_f1,consortOne_f2,consortOne_f3,consortOne_f4]
 kernel_rfl
end Go.Proofs.YtodkhgjhodmeoaaGreat
