/-
  The closed facts of the row of 'IntabulateDivided' (piece by piece: the whole at once takes too much memory).
-/
import Derived.Test.YtplpfocfcppajaaGreatRows
import Derived.JoinedOf
namespace Go.Proofs.YtplpfocfcppajaaGreat
open Go
set_option maxRecDepth 100000
theorem intabulateDivided_f1 : (Rows.intabulateDividedRow.inPlace == Tryz.checked.prog.inPlace 11) = true := by kernel_rfl
theorem intabulateDivided_f2 : (Rows.intabulateDividedRow.unfollowed == Tryz.checked.prog.unfollowed 11) = true := by kernel_rfl
theorem intabulateDivided_f3 : (Rows.intabulateDividedRow.recurses == Tryz.checked.prog.recurses 11) = true := by kernel_rfl
theorem intabulateDivided_f4 : (Rows.intabulateDividedRow.named == Tryz.checked.prog.varsNamed 11) = true := by kernel_rfl
theorem intabulateDivided_facts : joinedFacts Tryz.checked.prog 11 Tryz.f11 Rows.intabulateDividedSpec Rows.intabulateDividedRow = true := by
  unfold joinedFacts
  rw [intabulateDivided_f1, intabulateDivided_f2, intabulateDivided_f3, intabulateDivided_f4]
  kernel_rfl
end Go.Proofs.YtplpfocfcppajaaGreat
