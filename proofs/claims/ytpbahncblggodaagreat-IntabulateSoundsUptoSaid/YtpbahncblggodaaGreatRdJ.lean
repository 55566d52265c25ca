/- How a job is read. -/
import Derived.Test.YtpbahncblggodaaGreatRdA
import Derived.Test.YtpbahncblggodaaGreatLq
set_option linter.all false
namespace Go.Proofs.YtpbahncblggodaaGreat
open Go Go.Am Go.ChangeShapes Go.WideShapes Go.ChangeAt Go.RowKit Go.Deep
set_option maxRecDepth 100000
def WA(j:fY):Nat:=lm (lm (λ_=>4)) j.cu+(Nc j.instrument+(Nf j.hand+(1+0)))+1
theorem S1:qX Bk zP 31 mP 14 (λ_=>True) WA:=
 qX.struct (fs:= #[mz 31 0,mz 31 1,mz 31 2,mz 31 3]) [mz 31 0,mz 31 1,mz 31 2,mz 31 3] (jy.cons (eV Ng (by kernel_rfl)) (by kernel_rfl) (jy.cons (eV Pz (by kernel_rfl)) (by kernel_rfl) (jy.cons (eV PA (by kernel_rfl)) (by kernel_rfl) (jy.cons (eV kr (by kernel_rfl)) (by kernel_rfl) jy.nil))))
  (by kernel_rfl) rfl (by kernel_rfl) (by decide)
  (λb=>⟨b.1,b.2.1,b.2.2.1,b.2.2.2.1⟩) (λa=>(a.cu,a.instrument,a.hand,a.shift,())) (λb=>rfl) (λa=>rfl) (λb h=>trivial) (λb=>rfl)
theorem Nh{j:fY}(h:WA j<=1048576):bT j.cu:=by
 have h3:=J6 Ek.J5 j.cu
 have h2:lm (lm (λ_=>4)) j.cu+(Nc j.instrument+(Nf j.hand+(1+0)))+1<=1048576:=h
 simp only[bT];omega
end Go.Proofs.YtpbahncblggodaaGreat
