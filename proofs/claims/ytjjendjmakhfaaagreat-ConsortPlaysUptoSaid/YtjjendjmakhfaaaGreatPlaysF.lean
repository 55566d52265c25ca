/-
 The closed facts of the row of 'ConsortPlays' (piece by piece: the whole at once takes too much memory).
-/
import Derived.Test.YtjjendjmakhfaaaGreatRows
import Derived.JoinedOf
namespace Go.Proofs.YtjjendjmakhfaaaGreat
open Go
set_option maxRecDepth 100000
theorem consortPlays_f1 : (Rows.consortPlaysUptoRow.inPlace == Tryz.checked.prog.inPlace 3) = true := by kernel_rfl
theorem consortPlays_f2 : (Rows.consortPlaysUptoRow.unfollowed == Tryz.checked.prog.unfollowed 3) = true := by kernel_rfl
theorem consortPlays_f3 : (Rows.consortPlaysUptoRow.recurses == Tryz.checked.prog.recurses 3) = true := by kernel_rfl
theorem consortPlays_f4 : (Rows.consortPlaysUptoRow.named == Tryz.checked.prog.varsNamed 3) = true := by kernel_rfl
theorem consortPlays_facts : joinedFacts Tryz.checked.prog 3 Tryz.f3 (Rows.OpenSpec.upto Rows.consortPlaysSpec).bare Rows.consortPlaysUptoRow = true := by
 unfold joinedFacts
 rw [consortPlays_f1,consortPlays_f2,consortPlays_f3,consortPlays_f4]
 kernel_rfl
end Go.Proofs.YtjjendjmakhfaaaGreat
