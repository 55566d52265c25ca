/-
 The closed facts of the row of 'ConsortAllots' (piece by piece: the whole at once takes too much memory).
-/
import Derived.Test.YtodkhgjhodmeoaaGreatRows
import Derived.JoinedOf
namespace Go.Proofs.YtodkhgjhodmeoaaGreat
open Go
set_option maxRecDepth 100000
theorem consortAllots_f1 : (Rows.consortAllotsUptoRow.inPlace == Tryz.checked.prog.inPlace 8) = true := by kernel_rfl
theorem consortAllots_f2 : (Rows.consortAllotsUptoRow.unfollowed == Tryz.checked.prog.unfollowed 8) = true := by kernel_rfl
theorem consortAllots_f3 : (Rows.consortAllotsUptoRow.recurses == Tryz.checked.prog.recurses 8) = true := by kernel_rfl
theorem consortAllots_f4 : (Rows.consortAllotsUptoRow.named == Tryz.checked.prog.varsNamed 8) = true := by kernel_rfl
theorem consortAllots_facts : joinedFacts Tryz.checked.prog 8 Tryz.f8 (Rows.OpenSpec.upto Rows.consortAllotsSpec).bare Rows.consortAllotsUptoRow = true := by
 unfold joinedFacts
 rw [consortAllots_f1,consortAllots_f2,consortAllots_f3,consortAllots_f4]
 kernel_rfl
end Go.Proofs.YtodkhgjhodmeoaaGreat
