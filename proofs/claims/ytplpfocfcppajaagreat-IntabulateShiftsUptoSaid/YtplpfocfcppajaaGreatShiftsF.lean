/-
  The closed facts of the row of 'IntabulateShifts' (piece by piece: the whole at once takes too much memory).
-/
import Derived.Test.YtplpfocfcppajaaGreatRows
import Derived.JoinedOf
namespace Go.Proofs.YtplpfocfcppajaaGreat
open Go
set_option maxRecDepth 100000
theorem intabulateShifts_f1 : (Rows.intabulateShiftsUptoRow.inPlace == Tryz.checked.prog.inPlace 5) = true := by kernel_rfl
theorem intabulateShifts_f2 : (Rows.intabulateShiftsUptoRow.unfollowed == Tryz.checked.prog.unfollowed 5) = true := by kernel_rfl
theorem intabulateShifts_f3 : (Rows.intabulateShiftsUptoRow.recurses == Tryz.checked.prog.recurses 5) = true := by kernel_rfl
theorem intabulateShifts_f4 : (Rows.intabulateShiftsUptoRow.named == Tryz.checked.prog.varsNamed 5) = true := by kernel_rfl
theorem intabulateShifts_facts : joinedFacts Tryz.checked.prog 5 Tryz.f5 (Rows.OpenSpec.upto Rows.intabulateShiftsSpec).bare Rows.intabulateShiftsUptoRow = true := by
  unfold joinedFacts
  rw [intabulateShifts_f1, intabulateShifts_f2, intabulateShifts_f3, intabulateShifts_f4]
  kernel_rfl
end Go.Proofs.YtplpfocfcppajaaGreat
