/- How a job is read. -/
import Derived.Test.YtpbahncblggodaaGreatRdA
import Derived.Test.YtpbahncblggodaaGreatLq
set_option linter.all false
namespace Go.Proofs.YtpbahncblggodaaGreat
open Go Go.Am Go.ChangeShapes Go.WideShapes Go.ChangeAt Go.RowKit Go.Deep
set_option maxRecDepth 100000
def Xp(j:gk):Nat:=lm (lm (λ_=>4)) j.cA+(N3 j.instrument+(N4 j.hand+(1+0)))+1
theorem Tm:rM Bk zP 31 nh 14 (λ_=>True) Xp:=
 rM.struct (fs:= #[mT 31 0,mT 31 1,mT 31 2,mT 31 3]) [mT 31 0,mT 31 1,mT 31 2,mT 31 3] (jQ.cons (fh N5 (by kernel_rfl)) (by kernel_rfl) (jQ.cons (fh Qj (by kernel_rfl)) (by kernel_rfl) (jQ.cons (fh Qk (by kernel_rfl)) (by kernel_rfl) (jQ.cons (fh kH (by kernel_rfl)) (by kernel_rfl) jQ.nil))))
  (by kernel_rfl) rfl (by kernel_rfl) (by decide)
  (λb=>⟨b.1,b.2.1,b.2.2.1,b.2.2.2.1⟩) (λa=>(a.cA,a.instrument,a.hand,a.shift,())) (λb=>rfl) (λa=>rfl) (λb h=>trivial) (λb=>rfl)
theorem Nb{j:gk}(h:Xp j<=1048576):bU j.cA:=by
 have h3:=KQ E8.KP j.cA
 have h2:lm (lm (λ_=>4)) j.cA+(N3 j.instrument+(N4 j.hand+(1+0)))+1<=1048576:=h
 simp only[bU];omega
end Go.Proofs.YtpbahncblggodaaGreat
