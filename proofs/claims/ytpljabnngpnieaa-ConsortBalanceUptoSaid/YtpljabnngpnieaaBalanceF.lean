/-
 The closed facts of the row of 'ConsortBalance' (piece by piece: the whole at once takes too much memory).
-/
import Derived.Test.YtpljabnngpnieaaRows
import Derived.JoinedOf
namespace Go.Proofs.Ytpljabnngpnieaa
open Go
set_option maxRecDepth 100000
theorem consortBalance_f1 : (Rows.consortBalanceUptoRow.inPlace == Try.checked.prog.inPlace 7) = true := by kernel_rfl
theorem consortBalance_f2 : (Rows.consortBalanceUptoRow.unfollowed == Try.checked.prog.unfollowed 7) = true := by kernel_rfl
theorem consortBalance_f3 : (Rows.consortBalanceUptoRow.recurses == Try.checked.prog.recurses 7) = true := by kernel_rfl
theorem consortBalance_f4 : (Rows.consortBalanceUptoRow.named == Try.checked.prog.varsNamed 7) = true := by kernel_rfl
theorem consortBalance_facts : joinedFacts Try.checked.prog 7 Try.f7 (Rows.OpenSpec.upto Rows.consortBalanceSpec).bare Rows.consortBalanceUptoRow = true := by
 unfold joinedFacts
 rw [consortBalance_f1,consortBalance_f2,consortBalance_f3,consortBalance_f4]
 kernel_rfl
end Go.Proofs.Ytpljabnngpnieaa
