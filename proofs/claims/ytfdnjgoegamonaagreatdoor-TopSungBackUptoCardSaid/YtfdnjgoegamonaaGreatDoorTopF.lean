/- The closed facts of the row of 'TopSungBack'. -/
import Derived.Test.YtfdnjgoegamonaaGreatDoorRows
import Derived.JoinedOf
namespace Go.Proofs.YtfdnjgoegamonaaGreatDoor
open Go
set_option maxRecDepth 100000
theorem Az:(Rows.topSungBackUptoRow.inPlace==Tryz.checked.prog.inPlace 3)=true:=by kernel_rfl
theorem AA:(Rows.topSungBackUptoRow.unfollowed==Tryz.checked.prog.unfollowed 3)=true:=by kernel_rfl
theorem AB:(Rows.topSungBackUptoRow.recurses==Tryz.checked.prog.recurses 3)=true:=by kernel_rfl
theorem AD:(Rows.topSungBackUptoRow.named==Tryz.checked.prog.varsNamed 3)=true:=by kernel_rfl
theorem vk:joinedFacts Tryz.checked.prog 3 Tryz.f3 (Rows.OpenSpec.upto Rows.topSungBackSpec).bare Rows.topSungBackUptoRow=true:=by
 unfold joinedFacts;rw[Az,AA,AB,AD]
 kernel_rfl
end Go.Proofs.YtfdnjgoegamonaaGreatDoor
