/-
 The closed facts of the row of 'ConsortScores' (piece by piece: the whole at once takes too much memory).
-/
import Derived.Test.YtodkhgjhodmeoaaGreatRows
import Derived.JoinedOf
namespace Go.Proofs.YtodkhgjhodmeoaaGreat
open Go
set_option maxRecDepth 100000
theorem consortScores_f1 : (Rows.consortScoresUptoRow.inPlace == Tryz.checked.prog.inPlace 5) = true := by kernel_rfl
theorem consortScores_f2 : (Rows.consortScoresUptoRow.unfollowed == Tryz.checked.prog.unfollowed 5) = true := by kernel_rfl
theorem consortScores_f3 : (Rows.consortScoresUptoRow.recurses == Tryz.checked.prog.recurses 5) = true := by kernel_rfl
theorem consortScores_f4 : (Rows.consortScoresUptoRow.named == Tryz.checked.prog.varsNamed 5) = true := by kernel_rfl
theorem consortScores_facts : joinedFacts Tryz.checked.prog 5 Tryz.f5 (Rows.OpenSpec.upto Rows.consortScoresSpec).bare Rows.consortScoresUptoRow = true := by
 unfold joinedFacts
 rw [consortScores_f1,consortScores_f2,consortScores_f3,consortScores_f4]
 kernel_rfl
end Go.Proofs.YtodkhgjhodmeoaaGreat
