/- The sizes of what is read. -/
import Derived.Test.YtgpciecmgoppiaaGreatRdA
import Derived.Test.YtgpciecmgoppiaaGreatLq
set_option linter.all false
namespace Go.Proofs.YtgpciecmgoppiaaGreat
open Go Go.Am Go.ChangeShapes Go.WideShapes Go.ChangeAt Go.RowKit Go.Deep
theorem VC{P:List (List bH)}(h:lm (lm λ_=>4) P<=1048576):ck P:=by
 have h3:=C3 FZ.HA P;simp only[ck];omega
theorem VD{D:List kF}(h:lm BV D<=1048576):ck D:=by
 have h3:=C3 JX.HA D;simp only[ck];omega
theorem RR{D:List kF}(h:lm BV D<=1048576): ∀d∈D,ck d.bW:=λd hd=>by
 have h2:=Oj (m:=BV) hd;have h3:=C3 ku.HA d.bW;have h4:Pt d.instrument+(Pu d.hand+(lm (λ_=>1) d.bW+(1+0)))+1<=1048576:=AW h2 h;simp only[ck];omega
structure Px (P:List (List bH)) (D:List kF):Prop where
 p:ck P
 d:ck D
 e: ∀d∈D,ck d.bW
theorem VE{P:List (List bH)}{D:List kF}(h:lm (lm λ_=>4) P<=1048576)(h2:lm BV D<=1048576):Px P D:=⟨VC h,VD h2,RR h2⟩
end Go.Proofs.YtgpciecmgoppiaaGreat
