/-
 The closed facts of the row of 'ConsortDiscords' (piece by piece: the whole at once takes too much memory).
-/
import Derived.Test.YtjjendjmakhfaaaGreatRows
import Derived.JoinedOf
namespace Go.Proofs.YtjjendjmakhfaaaGreat
open Go
set_option maxRecDepth 100000
theorem consortDiscords_f1 : (Rows.consortDiscordsUptoRow.inPlace == Tryz.checked.prog.inPlace 4) = true := by kernel_rfl
theorem consortDiscords_f2 : (Rows.consortDiscordsUptoRow.unfollowed == Tryz.checked.prog.unfollowed 4) = true := by kernel_rfl
theorem consortDiscords_f3 : (Rows.consortDiscordsUptoRow.recurses == Tryz.checked.prog.recurses 4) = true := by kernel_rfl
theorem consortDiscords_f4 : (Rows.consortDiscordsUptoRow.named == Tryz.checked.prog.varsNamed 4) = true := by kernel_rfl
theorem consortDiscords_facts : joinedFacts Tryz.checked.prog 4 Tryz.f4 (Rows.OpenSpec.upto Rows.consortDiscordsSpec).bare Rows.consortDiscordsUptoRow = true := by
 unfold joinedFacts
 rw [consortDiscords_f1,consortDiscords_f2,consortDiscords_f3,consortDiscords_f4]
 kernel_rfl
end Go.Proofs.YtjjendjmakhfaaaGreat
