/-
  The closed facts of the row of 'IntabulateAlone' (piece by piece: the whole at once takes too much memory).
-/
import Derived.Test.YtpbahncblggodaaGreatRows
import Derived.JoinedOf
namespace Go.Proofs.YtpbahncblggodaaGreat
open Go
set_option maxRecDepth 100000
theorem intabulateAlone_f1:(Rows.intabulateAloneRow.inPlace==Tryz.checked.prog.inPlace 4)=true:=by kernel_rfl
theorem intabulateAlone_f2:(Rows.intabulateAloneRow.unfollowed==Tryz.checked.prog.unfollowed 4)=true:=by kernel_rfl
theorem intabulateAlone_f3:(Rows.intabulateAloneRow.recurses==Tryz.checked.prog.recurses 4)=true:=by kernel_rfl
theorem intabulateAlone_f4:(Rows.intabulateAloneRow.named==Tryz.checked.prog.varsNamed 4)=true:=by kernel_rfl
theorem intabulateAlone_facts:joinedFacts Tryz.checked.prog 4 Tryz.f4 Rows.intabulateAloneSpec Rows.intabulateAloneRow=true:=by
 unfold joinedFacts
 rw[intabulateAlone_f1,intabulateAlone_f2,intabulateAlone_f3,intabulateAlone_f4]
 kernel_rfl
end Go.Proofs.YtpbahncblggodaaGreat
