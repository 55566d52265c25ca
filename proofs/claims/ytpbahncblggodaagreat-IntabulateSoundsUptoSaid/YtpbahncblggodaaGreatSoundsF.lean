/- The closed facts of the row of 'IntabulateSounds'. -/
import Derived.Test.YtpbahncblggodaaGreatRows
import Derived.JoinedOf
namespace Go.Proofs.YtpbahncblggodaaGreat
open Go
set_option maxRecDepth 100000
theorem rq:(Rows.intabulateSoundsUptoRow.inPlace==Tryz.checked.prog.inPlace 6)=true:=by kernel_rfl
theorem ru:(Rows.intabulateSoundsUptoRow.unfollowed==Tryz.checked.prog.unfollowed 6)=true:=by kernel_rfl
theorem ry:(Rows.intabulateSoundsUptoRow.recurses==Tryz.checked.prog.recurses 6)=true:=by kernel_rfl
theorem rz:(Rows.intabulateSoundsUptoRow.named==Tryz.checked.prog.varsNamed 6)=true:=by kernel_rfl
theorem oV:joinedFacts Tryz.checked.prog 6 Tryz.f6 (Rows.OpenSpec.upto Rows.intabulateSoundsSpec).bare Rows.intabulateSoundsUptoRow=true:=by
 unfold joinedFacts
 rw[rq,ru,ry,rz]
 kernel_rfl
end Go.Proofs.YtpbahncblggodaaGreat
