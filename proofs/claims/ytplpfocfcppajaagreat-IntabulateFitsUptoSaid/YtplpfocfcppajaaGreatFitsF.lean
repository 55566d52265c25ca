/-
 The closed facts of the row of 'IntabulateFits' (piece by piece: the whole at once takes too much memory).
-/
import Derived.Test.YtplpfocfcppajaaGreatRows
import Derived.JoinedOf
namespace Go.Proofs.YtplpfocfcppajaaGreat
open Go
set_option maxRecDepth 100000
theorem intabulateFits_f1 : (Rows.intabulateFitsUptoRow.inPlace == Tryz.checked.prog.inPlace 3) = true := by kernel_rfl
theorem intabulateFits_f2 : (Rows.intabulateFitsUptoRow.unfollowed == Tryz.checked.prog.unfollowed 3) = true := by kernel_rfl
theorem intabulateFits_f3 : (Rows.intabulateFitsUptoRow.recurses == Tryz.checked.prog.recurses 3) = true := by kernel_rfl
theorem intabulateFits_f4 : (Rows.intabulateFitsUptoRow.named == Tryz.checked.prog.varsNamed 3) = true := by kernel_rfl
theorem intabulateFits_facts : joinedFacts Tryz.checked.prog 3 Tryz.f3 (Rows.OpenSpec.upto Rows.intabulateFitsSpec).bare Rows.intabulateFitsUptoRow = true := by
 unfold joinedFacts
 rw [intabulateFits_f1,intabulateFits_f2,intabulateFits_f3,intabulateFits_f4]
 kernel_rfl
end Go.Proofs.YtplpfocfcppajaaGreat
