/-
  The closed facts of the row of 'ConsortDeclared' (piece by piece: the whole at once takes too much memory).
-/
import Derived.Test.YtgpciecmgoppiaaGreatRows
import Derived.JoinedOf
namespace Go.Proofs.YtgpciecmgoppiaaGreat
open Go
set_option maxRecDepth 100000
theorem tl:(Rows.consortDeclaredUptoRow.inPlace==Tryz.checked.prog.inPlace 4)=true:=by kernel_rfl
theorem tm:(Rows.consortDeclaredUptoRow.unfollowed==Tryz.checked.prog.unfollowed 4)=true:=by kernel_rfl
theorem tn:(Rows.consortDeclaredUptoRow.recurses==Tryz.checked.prog.recurses 4)=true:=by kernel_rfl
theorem tp:(Rows.consortDeclaredUptoRow.named==Tryz.checked.prog.varsNamed 4)=true:=by kernel_rfl
theorem qa:joinedFacts Tryz.checked.prog 4 Tryz.f4 (Rows.OpenSpec.upto Rows.consortDeclaredSpec).bare Rows.consortDeclaredUptoRow=true:=by
 unfold joinedFacts;rw[tl,tm,tn,tp]
 kernel_rfl
end Go.Proofs.YtgpciecmgoppiaaGreat
