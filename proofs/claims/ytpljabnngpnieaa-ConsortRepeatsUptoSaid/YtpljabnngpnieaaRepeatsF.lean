/-
  The closed facts of the row of 'ConsortRepeats' (piece by piece: the whole at once takes too much memory).
-/
import Derived.Test.YtpljabnngpnieaaRows
import Derived.JoinedOf
namespace Go.Proofs.Ytpljabnngpnieaa
open Go
set_option maxRecDepth 100000
theorem consortRepeats_f1 : (Rows.consortRepeatsUptoRow.inPlace == Try.checked.prog.inPlace 4) = true := by kernel_rfl
theorem consortRepeats_f2 : (Rows.consortRepeatsUptoRow.unfollowed == Try.checked.prog.unfollowed 4) = true := by kernel_rfl
theorem consortRepeats_f3 : (Rows.consortRepeatsUptoRow.recurses == Try.checked.prog.recurses 4) = true := by kernel_rfl
theorem consortRepeats_f4 : (Rows.consortRepeatsUptoRow.named == Try.checked.prog.varsNamed 4) = true := by kernel_rfl
theorem consortRepeats_facts : joinedFacts Try.checked.prog 4 Try.f4 (Rows.OpenSpec.upto Rows.consortRepeatsSpec).bare Rows.consortRepeatsUptoRow = true := by
  unfold joinedFacts
  rw [consortRepeats_f1,consortRepeats_f2,consortRepeats_f3,consortRepeats_f4]
  kernel_rfl
end Go.Proofs.Ytpljabnngpnieaa
