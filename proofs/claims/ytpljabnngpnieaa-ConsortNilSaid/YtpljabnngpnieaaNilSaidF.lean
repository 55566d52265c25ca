/-
  The closed facts of the row of 'ConsortNil' (piece by piece: the whole at once takes too much memory).
-/
import Derived.Test.YtpljabnngpnieaaRows
import Derived.JoinedOf
namespace Go.Proofs.Ytpljabnngpnieaa
open Go
set_option maxRecDepth 100000
theorem consortNil_f1 : (Rows.consortNilRow.inPlace == Try.checked.prog.inPlace 8) = true := by kernel_rfl
theorem consortNil_f2 : (Rows.consortNilRow.unfollowed == Try.checked.prog.unfollowed 8) = true := by kernel_rfl
theorem consortNil_f3 : (Rows.consortNilRow.recurses == Try.checked.prog.recurses 8) = true := by kernel_rfl
theorem consortNil_f4 : (Rows.consortNilRow.named == Try.checked.prog.varsNamed 8) = true := by kernel_rfl
theorem consortNil_facts : joinedFacts Try.checked.prog 8 Try.f8 Rows.consortNilSpec Rows.consortNilRow = true := by
  unfold joinedFacts
  rw [consortNil_f1, consortNil_f2, consortNil_f3, consortNil_f4]
  kernel_rfl
end Go.Proofs.Ytpljabnngpnieaa
