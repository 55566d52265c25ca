/-
  The closed facts of the row of 'IntabulateAdorned' (piece by piece: the whole at once takes too much memory).
-/
import Derived.Test.YtplpfocfcppajaaGreatRows
import Derived.JoinedOf
namespace Go.Proofs.YtplpfocfcppajaaGreat
open Go
set_option maxRecDepth 100000
theorem intabulateAdorned_f1 : (Rows.intabulateAdornedRow.inPlace == Tryz.checked.prog.inPlace 9) = true := by kernel_rfl
theorem intabulateAdorned_f2 : (Rows.intabulateAdornedRow.unfollowed == Tryz.checked.prog.unfollowed 9) = true := by kernel_rfl
theorem intabulateAdorned_f3 : (Rows.intabulateAdornedRow.recurses == Tryz.checked.prog.recurses 9) = true := by kernel_rfl
theorem intabulateAdorned_f4 : (Rows.intabulateAdornedRow.named == Tryz.checked.prog.varsNamed 9) = true := by kernel_rfl
theorem intabulateAdorned_facts : joinedFacts Tryz.checked.prog 9 Tryz.f9 Rows.intabulateAdornedSpec Rows.intabulateAdornedRow = true := by
  unfold joinedFacts
  rw [intabulateAdorned_f1, intabulateAdorned_f2, intabulateAdorned_f3, intabulateAdorned_f4]
  kernel_rfl
end Go.Proofs.YtplpfocfcppajaaGreat
