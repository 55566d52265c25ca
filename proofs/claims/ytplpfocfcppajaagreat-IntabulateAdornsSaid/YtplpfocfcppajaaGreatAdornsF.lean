/-
  The closed facts of the row of 'IntabulateAdorns' (piece by piece: the whole at once takes too much memory).
-/
import Derived.Test.YtplpfocfcppajaaGreatRows
import Derived.JoinedOf
namespace Go.Proofs.YtplpfocfcppajaaGreat
open Go
set_option maxRecDepth 100000
theorem intabulateAdorns_f1 : (Rows.intabulateAdornsRow.inPlace == Tryz.checked.prog.inPlace 7) = true := by kernel_rfl
theorem intabulateAdorns_f2 : (Rows.intabulateAdornsRow.unfollowed == Tryz.checked.prog.unfollowed 7) = true := by kernel_rfl
theorem intabulateAdorns_f3 : (Rows.intabulateAdornsRow.recurses == Tryz.checked.prog.recurses 7) = true := by kernel_rfl
theorem intabulateAdorns_f4 : (Rows.intabulateAdornsRow.named == Tryz.checked.prog.varsNamed 7) = true := by kernel_rfl
theorem intabulateAdorns_facts : joinedFacts Tryz.checked.prog 7 Tryz.f7 Rows.intabulateAdornsSpec Rows.intabulateAdornsRow = true := by
  unfold joinedFacts
  rw [intabulateAdorns_f1, intabulateAdorns_f2, intabulateAdorns_f3, intabulateAdorns_f4]
  kernel_rfl
end Go.Proofs.YtplpfocfcppajaaGreat
