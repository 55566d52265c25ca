/-
  The closed facts of the row of 'IntabulateTables' (piece by piece: the whole at once takes too much memory).
-/
import Derived.Test.YtplpfocfcppajaaGreatRows
import Derived.JoinedOf
namespace Go.Proofs.YtplpfocfcppajaaGreat
open Go
set_option maxRecDepth 100000
theorem intabulateTables_f1 : (Rows.intabulateTablesRow.inPlace == Tryz.checked.prog.inPlace 6) = true := by kernel_rfl
theorem intabulateTables_f2 : (Rows.intabulateTablesRow.unfollowed == Tryz.checked.prog.unfollowed 6) = true := by kernel_rfl
theorem intabulateTables_f3 : (Rows.intabulateTablesRow.recurses == Tryz.checked.prog.recurses 6) = true := by kernel_rfl
theorem intabulateTables_f4 : (Rows.intabulateTablesRow.named == Tryz.checked.prog.varsNamed 6) = true := by kernel_rfl
theorem intabulateTables_facts : joinedFacts Tryz.checked.prog 6 Tryz.f6 Rows.intabulateTablesSpec Rows.intabulateTablesRow = true := by
  unfold joinedFacts
  rw [intabulateTables_f1, intabulateTables_f2, intabulateTables_f3, intabulateTables_f4]
  kernel_rfl
end Go.Proofs.YtplpfocfcppajaaGreat
