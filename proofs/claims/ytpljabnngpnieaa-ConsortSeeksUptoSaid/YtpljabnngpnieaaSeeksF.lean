/-
  The closed facts of the row of 'ConsortSeeks' (piece by piece: the whole at once takes too much memory).
-/
import Derived.Test.YtpljabnngpnieaaRows
import Derived.JoinedOf
namespace Go.Proofs.Ytpljabnngpnieaa
open Go
set_option maxRecDepth 100000
theorem consortSeeks_f1 : (Rows.consortSeeksUptoRow.inPlace == Try.checked.prog.inPlace 3) = true := by kernel_rfl
theorem consortSeeks_f2 : (Rows.consortSeeksUptoRow.unfollowed == Try.checked.prog.unfollowed 3) = true := by kernel_rfl
theorem consortSeeks_f3 : (Rows.consortSeeksUptoRow.recurses == Try.checked.prog.recurses 3) = true := by kernel_rfl
theorem consortSeeks_f4 : (Rows.consortSeeksUptoRow.named == Try.checked.prog.varsNamed 3) = true := by kernel_rfl
theorem consortSeeks_facts : joinedFacts Try.checked.prog 3 Try.f3 (Rows.OpenSpec.upto Rows.consortSeeksSpec).bare Rows.consortSeeksUptoRow = true := by
  unfold joinedFacts
  rw [consortSeeks_f1, consortSeeks_f2, consortSeeks_f3, consortSeeks_f4]
  kernel_rfl
end Go.Proofs.Ytpljabnngpnieaa
