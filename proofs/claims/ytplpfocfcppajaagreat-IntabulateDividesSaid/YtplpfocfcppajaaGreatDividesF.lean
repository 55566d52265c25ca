/-
  The closed facts of the row of 'IntabulateDivides' (piece by piece: the whole at once takes too much memory).
-/
import Derived.Test.YtplpfocfcppajaaGreatRows
import Derived.JoinedOf
namespace Go.Proofs.YtplpfocfcppajaaGreat
open Go
set_option maxRecDepth 100000
theorem intabulateDivides_f1 : (Rows.intabulateDividesRow.inPlace == Tryz.checked.prog.inPlace 8) = true := by kernel_rfl
theorem intabulateDivides_f2 : (Rows.intabulateDividesRow.unfollowed == Tryz.checked.prog.unfollowed 8) = true := by kernel_rfl
theorem intabulateDivides_f3 : (Rows.intabulateDividesRow.recurses == Tryz.checked.prog.recurses 8) = true := by kernel_rfl
theorem intabulateDivides_f4 : (Rows.intabulateDividesRow.named == Tryz.checked.prog.varsNamed 8) = true := by kernel_rfl
theorem intabulateDivides_facts : joinedFacts Tryz.checked.prog 8 Tryz.f8 Rows.intabulateDividesSpec Rows.intabulateDividesRow = true := by
  unfold joinedFacts
  rw [intabulateDivides_f1, intabulateDivides_f2, intabulateDivides_f3, intabulateDivides_f4]
  kernel_rfl
end Go.Proofs.YtplpfocfcppajaaGreat
