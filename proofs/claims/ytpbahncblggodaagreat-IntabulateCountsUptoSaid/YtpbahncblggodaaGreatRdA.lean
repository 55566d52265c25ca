/- How arguments are read. -/
import Derived.Test.YtpbahncblggodaaGreatTD
import Derived.Test.YtpbahncblggodaaGreatAm31
set_option linter.all false
namespace Go.Proofs.YtpbahncblggodaaGreat
open Go Go.Am Go.ChangeShapes Go.WideShapes Go.ChangeAt Go.RowKit Go.Deep
set_option maxRecDepth 100000
theorem own:ownKnob zP.godebug=none:=by kernel_rfl
theorem kids:Kids zP (· <zP.types.size):=kids_rows (by kernel_rfl) (by kernel_rfl)
theorem full: ∀t e,t<zP.types.size->zP.underlying t=some (.slice e)->0<zP.cellsOf e:=slices_full_of zP (by kernel_rfl)
theorem kH:rM Bk zP 3 (AV.int .i64) 1 (YQ .i64) (λ_=>1):=rM.int .i64 (by kernel_rfl) (by kernel_rfl)
theorem I7:rM Bk zP 4 AV.bool 1 (λ_=>True) (λ_=>1):=rM.bool (by kernel_rfl) (by kernel_rfl)
theorem Dd:rM Bk zP 24 (SL (AV.int .i64)) 1 (RE (YQ .i64)) (lm (λ_=>1)):=kH.slice (by kernel_rfl) (by kernel_rfl)
theorem N2:rM Bk zP 27 (SL AV.bool) 1 (RE λ_=>True) (lm (λ_=>1)):=I7.slice (by kernel_rfl) (by kernel_rfl)
noncomputable def mT(t:TypeId)(i:Nat):Field:=match zP.underlying t with
 | some (.struct fs) => fs.toList.getD i ⟨ "", 0, 0, false, "", "", 0⟩
 | _ => ⟨ "", 0, 0, false, "", "", 0⟩
theorem fh{t:TypeId}{i:Nat}{u:TypeId}{α:Type}{e:α->AV}{n:Nat}{ok:α->Prop}{m:α->Nat}(r:rM Bk zP u e n ok m)(h:(mT t i).type=u):rM Bk zP (mT t i).type e n ok m:=by rw[h];exact r
theorem Kr:rM Bk zP 49 jl 3 (λ_=>True) (λ_=>4):=
 rM.struct (fs:= #[mT 49 0,mT 49 1,mT 49 2]) [mT 49 0,mT 49 1,mT 49 2] (jQ.cons (fh kH (by kernel_rfl)) (by kernel_rfl) (jQ.cons (fh kH (by kernel_rfl)) (by kernel_rfl) (jQ.cons (fh I7 (by kernel_rfl)) (by kernel_rfl) jQ.nil)))
  (by kernel_rfl) rfl (by kernel_rfl) (by decide)
  (λb=>⟨b.1,b.2.1,b.2.2.1⟩) (λa=>(a.bY,a.dG,a.js,())) (λb=>rfl) (λa=>rfl) (λb h=>trivial) (λb=>rfl)
theorem Hl:rM Bk zP 23 (SL jl) 1 (RE λ_=>True) (lm (λ_=>4)):=Kr.slice (by kernel_rfl) (by kernel_rfl)
def N3(a:bK):Nat:=lm (λ_=>4) a.ck+(lm (λ_=>1) a.bN+0)+1
theorem Qj:rM Bk zP 26 nM 2 (λ_=>True) N3:=
 rM.struct (fs:= #[mT 26 0,mT 26 1]) [mT 26 0,mT 26 1] (jQ.cons (fh Hl (by kernel_rfl)) (by kernel_rfl) (jQ.cons (fh Dd (by kernel_rfl)) (by kernel_rfl) jQ.nil))
  (by kernel_rfl) rfl (by kernel_rfl) (by decide)
  (λb=>⟨b.1,b.2.1⟩) (λa=>(a.ck,a.bN,())) (λb=>rfl) (λa=>rfl) (λb h=>trivial) (λb=>rfl)
def N4(h:eA):Nat:=lm (λ_=>1) h.low+(lm (λ_=>1) h.high+(lm (λ_=>1) h.gh+(1+(1+(1+(1+(1+(1+(1+0)))))))))+1
theorem Qk:rM Bk zP 29 De 10 (λ_=>True) N4:=
 rM.struct (fs:= #[mT 29 0,mT 29 1,mT 29 2,mT 29 3,mT 29 4,mT 29 5,mT 29 6,mT 29 7,mT 29 8,mT 29 9]) [mT 29 0,mT 29 1,mT 29 2,mT 29 3,mT 29 4,mT 29 5,mT 29 6,mT 29 7,mT 29 8,mT 29 9] (jQ.cons (fh Dd (by kernel_rfl)) (by kernel_rfl) (jQ.cons (fh Dd (by kernel_rfl)) (by kernel_rfl) (jQ.cons (fh N2 (by kernel_rfl)) (by kernel_rfl) (jQ.cons (fh kH (by kernel_rfl)) (by kernel_rfl) (jQ.cons (fh kH (by kernel_rfl)) (by kernel_rfl) (jQ.cons (fh kH (by kernel_rfl)) (by kernel_rfl) (jQ.cons (fh kH (by kernel_rfl)) (by kernel_rfl) (jQ.cons (fh kH (by kernel_rfl)) (by kernel_rfl) (jQ.cons (fh kH (by kernel_rfl)) (by kernel_rfl) (jQ.cons (fh kH (by kernel_rfl)) (by kernel_rfl) jQ.nil))))))))))
  (by kernel_rfl) rfl (by kernel_rfl) (by decide)
  (λb=>⟨b.1,b.2.1,b.2.2.1,b.2.2.2.1,b.2.2.2.2.1,b.2.2.2.2.2.1,b.2.2.2.2.2.2.1,b.2.2.2.2.2.2.2.1,b.2.2.2.2.2.2.2.2.1,b.2.2.2.2.2.2.2.2.2.1⟩) (λa=>(a.low,a.high,a.gh,a.top,a.jump,a.shift,a.lift,a.lC,a.eH,a.gK,())) (λb=>rfl) (λa=>rfl) (λb h=>trivial) (λb=>rfl)
theorem Ql:rM Bk zP 72 mr 3 (λ_=>True) (λ_=>4):=
 rM.struct (fs:= #[mT 72 0,mT 72 1,mT 72 2]) [mT 72 0,mT 72 1,mT 72 2] (jQ.cons (fh kH (by kernel_rfl)) (by kernel_rfl) (jQ.cons (fh kH (by kernel_rfl)) (by kernel_rfl) (jQ.cons (fh kH (by kernel_rfl)) (by kernel_rfl) jQ.nil)))
  (by kernel_rfl) rfl (by kernel_rfl) (by decide)
  (λb=>⟨b.1,b.2.1,b.2.2.1⟩) (λa=>(a.bY,a.bW,a.dx,())) (λb=>rfl) (λa=>rfl) (λb h=>trivial) (λb=>rfl)
theorem E8:rM Bk zP 45 (SL mr) 1 (RE (λ_=>True)) (lm (λ_=>4)):=Ql.slice (by kernel_rfl) (by kernel_rfl)
theorem N5:rM Bk zP 22 (SL (SL mr)) 1 (RE (RE λ_=>True)) (lm (lm (λ_=>4))):=E8.slice (by kernel_rfl) (by kernel_rfl)
end Go.Proofs.YtpbahncblggodaaGreat
