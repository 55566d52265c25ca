/-
 The closed facts of the row of 'ConsortAllotBest' (piece by piece: the whole at once takes too much memory).
-/
import Derived.Test.YtodkhgjhodmeoaaRows
import Derived.JoinedOf
namespace Go.Proofs.Ytodkhgjhodmeoaa
open Go
set_option maxRecDepth 100000
theorem consortAllotBest_f1 : (Rows.consortAllotBestUptoRow.inPlace == Try.checked.prog.inPlace 3) = true := by kernel_rfl
theorem consortAllotBest_f2 : (Rows.consortAllotBestUptoRow.unfollowed == Try.checked.prog.unfollowed 3) = true := by kernel_rfl
theorem consortAllotBest_f3 : (Rows.consortAllotBestUptoRow.recurses == Try.checked.prog.recurses 3) = true := by kernel_rfl
theorem consortAllotBest_f4 : (Rows.consortAllotBestUptoRow.named == Try.checked.prog.varsNamed 3) = true := by kernel_rfl
theorem consortAllotBest_facts : joinedFacts Try.checked.prog 3 Try.f3 (Rows.OpenSpec.upto Rows.consortAllotBestSpec).bare Rows.consortAllotBestUptoRow = true := by
 unfold joinedFacts
 rw [consortAllotBest_f1,consortAllotBest_f2,consortAllotBest_f3,consortAllotBest_f4]
 kernel_rfl
end Go.Proofs.Ytodkhgjhodmeoaa
