/-
  The closed facts of the row of 'ConsortEnds' (piece by piece: the whole at once takes too much memory).
-/
import Derived.Test.YtpljabnngpnieaaRows
import Derived.JoinedOf
namespace Go.Proofs.Ytpljabnngpnieaa
open Go
set_option maxRecDepth 100000
theorem consortEnds_f1 : (Rows.consortEndsUptoRow.inPlace == Try.checked.prog.inPlace 5) = true := by kernel_rfl
theorem consortEnds_f2 : (Rows.consortEndsUptoRow.unfollowed == Try.checked.prog.unfollowed 5) = true := by kernel_rfl
theorem consortEnds_f3 : (Rows.consortEndsUptoRow.recurses == Try.checked.prog.recurses 5) = true := by kernel_rfl
theorem consortEnds_f4 : (Rows.consortEndsUptoRow.named == Try.checked.prog.varsNamed 5) = true := by kernel_rfl
theorem consortEnds_facts : joinedFacts Try.checked.prog 5 Try.f5 (Rows.OpenSpec.upto Rows.consortEndsSpec).bare Rows.consortEndsUptoRow = true := by
  unfold joinedFacts
  rw [consortEnds_f1, consortEnds_f2, consortEnds_f3, consortEnds_f4]
  kernel_rfl
end Go.Proofs.Ytpljabnngpnieaa
