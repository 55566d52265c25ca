/-
  The closed facts of the row of 'IntabulateFitBest' (piece by piece: the whole at once takes too much memory).
-/
import Derived.Test.YtplpfocfcppajaaGreatRows
import Derived.JoinedOf
namespace Go.Proofs.YtplpfocfcppajaaGreat
open Go
set_option maxRecDepth 100000
theorem intabulateFitBest_f1 : (Rows.intabulateFitBestUptoRow.inPlace == Tryz.checked.prog.inPlace 4) = true := by kernel_rfl
theorem intabulateFitBest_f2 : (Rows.intabulateFitBestUptoRow.unfollowed == Tryz.checked.prog.unfollowed 4) = true := by kernel_rfl
theorem intabulateFitBest_f3 : (Rows.intabulateFitBestUptoRow.recurses == Tryz.checked.prog.recurses 4) = true := by kernel_rfl
theorem intabulateFitBest_f4 : (Rows.intabulateFitBestUptoRow.named == Tryz.checked.prog.varsNamed 4) = true := by kernel_rfl
theorem intabulateFitBest_facts : joinedFacts Tryz.checked.prog 4 Tryz.f4 (Rows.OpenSpec.upto Rows.intabulateFitBestSpec).bare Rows.intabulateFitBestUptoRow = true := by
  unfold joinedFacts
  rw [intabulateFitBest_f1, intabulateFitBest_f2, intabulateFitBest_f3, intabulateFitBest_f4]
  kernel_rfl
end Go.Proofs.YtplpfocfcppajaaGreat
