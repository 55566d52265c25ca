/-
  The closed facts of the row of 'ConsortSilent' (piece by piece: the whole at once takes too much memory).
-/
import Derived.Test.YtpljabnngpnieaaRows
import Derived.JoinedOf
namespace Go.Proofs.Ytpljabnngpnieaa
open Go
set_option maxRecDepth 100000
theorem consortSilent_f1 : (Rows.consortSilentUptoRow.inPlace == Try.checked.prog.inPlace 6) = true := by kernel_rfl
theorem consortSilent_f2 : (Rows.consortSilentUptoRow.unfollowed == Try.checked.prog.unfollowed 6) = true := by kernel_rfl
theorem consortSilent_f3 : (Rows.consortSilentUptoRow.recurses == Try.checked.prog.recurses 6) = true := by kernel_rfl
theorem consortSilent_f4 : (Rows.consortSilentUptoRow.named == Try.checked.prog.varsNamed 6) = true := by kernel_rfl
theorem consortSilent_facts : joinedFacts Try.checked.prog 6 Try.f6 (Rows.OpenSpec.upto Rows.consortSilentSpec).bare Rows.consortSilentUptoRow = true := by
  unfold joinedFacts
  rw [consortSilent_f1, consortSilent_f2, consortSilent_f3, consortSilent_f4]
  kernel_rfl
end Go.Proofs.Ytpljabnngpnieaa
