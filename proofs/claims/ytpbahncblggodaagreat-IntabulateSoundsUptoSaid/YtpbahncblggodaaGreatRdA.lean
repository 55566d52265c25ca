/- How arguments are read. -/
import Derived.Test.YtpbahncblggodaaGreatTD
import Derived.Test.YtpbahncblggodaaGreatAm31
set_option linter.all false
namespace Go.Proofs.YtpbahncblggodaaGreat
open Go Go.Am Go.ChangeShapes Go.WideShapes Go.ChangeAt Go.RowKit Go.Deep
set_option maxRecDepth 100000
theorem own:ownKnob zP.godebug=none:=by kernel_rfl
theorem kids:Kids zP (· <zP.types.size):=kids_rows (by kernel_rfl) (by kernel_rfl)
theorem full: ∀t e,t<zP.types.size->zP.underlying t=some (.slice e)->0<zP.cellsOf e:=slices_full_of zP (by kernel_rfl)
theorem kr:qX Bk zP 3 (AV.int .i64) 1 (XZ .i64) (λ_=>1):=qX.int .i64 (by kernel_rfl) (by kernel_rfl)
theorem Ik:qX Bk zP 4 AV.bool 1 (λ_=>True) (λ_=>1):=qX.bool (by kernel_rfl) (by kernel_rfl)
theorem Cw:qX Bk zP 24 (SL (AV.int .i64)) 1 (QJ (XZ .i64)) (lm (λ_=>1)):=kr.slice (by kernel_rfl) (by kernel_rfl)
theorem Nb:qX Bk zP 27 (SL AV.bool) 1 (QJ λ_=>True) (lm (λ_=>1)):=Ik.slice (by kernel_rfl) (by kernel_rfl)
noncomputable def mz(t:TypeId)(i:Nat):Field:=match zP.underlying t with
 | some (.struct fs) => fs.toList.getD i ⟨ "", 0, 0, false, "", "", 0⟩
 | _ => ⟨ "", 0, 0, false, "", "", 0⟩
theorem eV{t:TypeId}{i:Nat}{u:TypeId}{α:Type}{e:α->AV}{n:Nat}{ok:α->Prop}{m:α->Nat}(r:qX Bk zP u e n ok m)(h:(mz t i).type=u):qX Bk zP (mz t i).type e n ok m:=by rw[h];exact r
theorem JI:qX Bk zP 49 ju 3 (λ_=>True) (λ_=>4):=
 qX.struct (fs:= #[mz 49 0,mz 49 1,mz 49 2]) [mz 49 0,mz 49 1,mz 49 2] (jy.cons (eV kr (by kernel_rfl)) (by kernel_rfl) (jy.cons (eV kr (by kernel_rfl)) (by kernel_rfl) (jy.cons (eV Ik (by kernel_rfl)) (by kernel_rfl) jy.nil)))
  (by kernel_rfl) rfl (by kernel_rfl) (by decide)
  (λb=>⟨b.1,b.2.1,b.2.2.1⟩) (λa=>(a.bW,a.dz,a.ja,())) (λb=>rfl) (λa=>rfl) (λb h=>trivial) (λb=>rfl)
theorem Gu:qX Bk zP 23 (SL ju) 1 (QJ λ_=>True) (lm (λ_=>4)):=JI.slice (by kernel_rfl) (by kernel_rfl)
def Nc(a:bK):Nat:=lm (λ_=>4) a.cj+(lm (λ_=>1) a.bN+0)+1
theorem Pz:qX Bk zP 26 np 2 (λ_=>True) Nc:=
 qX.struct (fs:= #[mz 26 0,mz 26 1]) [mz 26 0,mz 26 1] (jy.cons (eV Gu (by kernel_rfl)) (by kernel_rfl) (jy.cons (eV Cw (by kernel_rfl)) (by kernel_rfl) jy.nil))
  (by kernel_rfl) rfl (by kernel_rfl) (by decide)
  (λb=>⟨b.1,b.2.1⟩) (λa=>(a.cj,a.bN,())) (λb=>rfl) (λa=>rfl) (λb h=>trivial) (λb=>rfl)
def Nf(h:ee):Nat:=lm (λ_=>1) h.low+(lm (λ_=>1) h.high+(lm (λ_=>1) h.fV+(1+(1+(1+(1+(1+(1+(1+0)))))))))+1
theorem PA:qX Bk zP 29 Cx 10 (λ_=>True) Nf:=
 qX.struct (fs:= #[mz 29 0,mz 29 1,mz 29 2,mz 29 3,mz 29 4,mz 29 5,mz 29 6,mz 29 7,mz 29 8,mz 29 9]) [mz 29 0,mz 29 1,mz 29 2,mz 29 3,mz 29 4,mz 29 5,mz 29 6,mz 29 7,mz 29 8,mz 29 9] (jy.cons (eV Cw (by kernel_rfl)) (by kernel_rfl) (jy.cons (eV Cw (by kernel_rfl)) (by kernel_rfl) (jy.cons (eV Nb (by kernel_rfl)) (by kernel_rfl) (jy.cons (eV kr (by kernel_rfl)) (by kernel_rfl) (jy.cons (eV kr (by kernel_rfl)) (by kernel_rfl) (jy.cons (eV kr (by kernel_rfl)) (by kernel_rfl) (jy.cons (eV kr (by kernel_rfl)) (by kernel_rfl) (jy.cons (eV kr (by kernel_rfl)) (by kernel_rfl) (jy.cons (eV kr (by kernel_rfl)) (by kernel_rfl) (jy.cons (eV kr (by kernel_rfl)) (by kernel_rfl) jy.nil))))))))))
  (by kernel_rfl) rfl (by kernel_rfl) (by decide)
  (λb=>⟨b.1,b.2.1,b.2.2.1,b.2.2.2.1,b.2.2.2.2.1,b.2.2.2.2.2.1,b.2.2.2.2.2.2.1,b.2.2.2.2.2.2.2.1,b.2.2.2.2.2.2.2.2.1,b.2.2.2.2.2.2.2.2.2.1⟩) (λa=>(a.low,a.high,a.fV,a.top,a.jump,a.shift,a.lift,a.k8,a.ey,a.gw,())) (λb=>rfl) (λa=>rfl) (λb h=>trivial) (λb=>rfl)
theorem PB:qX Bk zP 72 mO 3 (λ_=>True) (λ_=>4):=
 qX.struct (fs:= #[mz 72 0,mz 72 1,mz 72 2]) [mz 72 0,mz 72 1,mz 72 2] (jy.cons (eV kr (by kernel_rfl)) (by kernel_rfl) (jy.cons (eV kr (by kernel_rfl)) (by kernel_rfl) (jy.cons (eV kr (by kernel_rfl)) (by kernel_rfl) jy.nil)))
  (by kernel_rfl) rfl (by kernel_rfl) (by decide)
  (λb=>⟨b.1,b.2.1,b.2.2.1⟩) (λa=>(a.bW,a.bX,a.dr,())) (λb=>rfl) (λa=>rfl) (λb h=>trivial) (λb=>rfl)
theorem Ek:qX Bk zP 45 (SL mO) 1 (QJ (λ_=>True)) (lm (λ_=>4)):=PB.slice (by kernel_rfl) (by kernel_rfl)
theorem Ng:qX Bk zP 22 (SL (SL mO)) 1 (QJ (QJ λ_=>True)) (lm (lm (λ_=>4))):=Ek.slice (by kernel_rfl) (by kernel_rfl)
end Go.Proofs.YtpbahncblggodaaGreat
