/-
  The closed facts of the row of 'IntabulateUndivides' (piece by piece: the whole at once takes too much memory).
-/
import Derived.Test.YtplpfocfcppajaaGreatRows
import Derived.JoinedOf
namespace Go.Proofs.YtplpfocfcppajaaGreat
open Go
set_option maxRecDepth 100000
theorem intabulateUndivides_f1 : (Rows.intabulateUndividesRow.inPlace == Tryz.checked.prog.inPlace 10) = true := by kernel_rfl
theorem intabulateUndivides_f2 : (Rows.intabulateUndividesRow.unfollowed == Tryz.checked.prog.unfollowed 10) = true := by kernel_rfl
theorem intabulateUndivides_f3 : (Rows.intabulateUndividesRow.recurses == Tryz.checked.prog.recurses 10) = true := by kernel_rfl
theorem intabulateUndivides_f4 : (Rows.intabulateUndividesRow.named == Tryz.checked.prog.varsNamed 10) = true := by kernel_rfl
theorem intabulateUndivides_facts : joinedFacts Tryz.checked.prog 10 Tryz.f10 Rows.intabulateUndividesSpec Rows.intabulateUndividesRow = true := by
  unfold joinedFacts
  rw [intabulateUndivides_f1, intabulateUndivides_f2, intabulateUndivides_f3, intabulateUndivides_f4]
  kernel_rfl
end Go.Proofs.YtplpfocfcppajaaGreat
