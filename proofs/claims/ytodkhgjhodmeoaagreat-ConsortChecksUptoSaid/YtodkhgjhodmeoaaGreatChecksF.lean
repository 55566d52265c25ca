/-
 The closed facts of the row of 'ConsortChecks' (piece by piece: the whole at once takes too much memory).
-/
import Derived.Test.YtodkhgjhodmeoaaGreatRows
import Derived.JoinedOf
namespace Go.Proofs.YtodkhgjhodmeoaaGreat
open Go
set_option maxRecDepth 100000
theorem consortChecks_f1 : (Rows.consortChecksUptoRow.inPlace == Tryz.checked.prog.inPlace 4) = true := by kernel_rfl
theorem consortChecks_f2 : (Rows.consortChecksUptoRow.unfollowed == Tryz.checked.prog.unfollowed 4) = true := by kernel_rfl
theorem consortChecks_f3 : (Rows.consortChecksUptoRow.recurses == Tryz.checked.prog.recurses 4) = true := by kernel_rfl
theorem consortChecks_f4 : (Rows.consortChecksUptoRow.named == Tryz.checked.prog.varsNamed 4) = true := by kernel_rfl
theorem consortChecks_facts : joinedFacts Tryz.checked.prog 4 Tryz.f4 (Rows.OpenSpec.upto Rows.consortChecksSpec).bare Rows.consortChecksUptoRow = true := by
 unfold joinedFacts
 rw [consortChecks_f1,consortChecks_f2,consortChecks_f3,consortChecks_f4]
 kernel_rfl
end Go.Proofs.YtodkhgjhodmeoaaGreat
