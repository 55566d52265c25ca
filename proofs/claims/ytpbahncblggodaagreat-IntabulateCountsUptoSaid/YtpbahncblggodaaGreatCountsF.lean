/- The closed facts of the row of 'IntabulateCounts'. -/
import Derived.Test.YtpbahncblggodaaGreatRows
import Derived.JoinedOf
namespace Go.Proofs.YtpbahncblggodaaGreat
open Go
set_option maxRecDepth 100000
theorem rW:(Rows.intabulateCountsUptoRow.inPlace==Tryz.checked.prog.inPlace 7)=true:=by kernel_rfl
theorem rX:(Rows.intabulateCountsUptoRow.unfollowed==Tryz.checked.prog.unfollowed 7)=true:=by kernel_rfl
theorem rY:(Rows.intabulateCountsUptoRow.recurses==Tryz.checked.prog.recurses 7)=true:=by kernel_rfl
theorem rZ:(Rows.intabulateCountsUptoRow.named==Tryz.checked.prog.varsNamed 7)=true:=by kernel_rfl
theorem pj:joinedFacts Tryz.checked.prog 7 Tryz.f7 (Rows.OpenSpec.upto Rows.intabulateCountsSpec).bare Rows.intabulateCountsUptoRow=true:=by
 unfold joinedFacts
 rw[rW,rX,rY,rZ]
 kernel_rfl
end Go.Proofs.YtpbahncblggodaaGreat
