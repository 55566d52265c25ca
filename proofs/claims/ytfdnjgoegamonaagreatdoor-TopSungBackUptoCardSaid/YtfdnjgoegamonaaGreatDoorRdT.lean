/- How a job is read. -/
import Derived.Test.YtfdnjgoegamonaaGreatDoorTD
import Derived.Test.YtfdnjgoegamonaaGreatDoorAm31
set_option linter.all false
namespace Go.Proofs.YtfdnjgoegamonaaGreatDoor
open Go Go.Am Go.ChangeShapes Go.WideShapes Go.ChangeAt Go.RowKit Go.Deep
set_option maxRecDepth 100000
theorem own:ownKnob zP.godebug=none:=by kernel_rfl
theorem kids:Kids zP (· <zP.types.size):=kids_rows (by kernel_rfl) (by kernel_rfl)
theorem full: ∀t e,t<zP.types.size->zP.underlying t=some (.slice e)->0<zP.cellsOf e:=slices_full_of zP (by kernel_rfl)
theorem mD:sQ Bk zP 3 (AV.int .i64) 1 (okI .i64) (λ_=>1):=sQ.int .i64 (by kernel_rfl) (by kernel_rfl)
theorem Q9:sQ Bk zP 4 AV.bool 1 (λ_=>True) (λ_=>1):=sQ.bool (by kernel_rfl) (by kernel_rfl)
theorem U5:sQ Bk zP 9 AV.str 1 (λs=>s.size<=maxLen) (λs=>s.size+1):=sQ.str (by kernel_rfl) (by kernel_rfl)
theorem JM:sQ Bk zP 23 (SL (AV.int .i64)) 1 (VB (okI .i64)) (lm (λ_=>1)):=mD.slice (by kernel_rfl) (by kernel_rfl)
theorem OU:sQ Bk zP 24 (SL AV.bool) 1 (VB λ_=>True) (lm (λ_=>1)):=Q9.slice (by kernel_rfl) (by kernel_rfl)
noncomputable def qp(t:TypeId)(i:Nat):Field:=match zP.underlying t with
 | some (.struct fs) => fs.toList.getD i ⟨ "", 0, 0, false, "", "", 0⟩
 | _ => ⟨ "", 0, 0, false, "", "", 0⟩
theorem gC{t:TypeId}{i:Nat}{u:TypeId}{α:Type}{e:α->AV}{n:Nat}{ok:α->Prop}{m:α->Nat}(r:sQ Bk zP u e n ok m)(h:(qp t i).type=u):sQ Bk zP (qp t i).type e n ok m:=by rw[h];exact r
def OV(h:eM):Nat:=lm (λ_=>1) h.low+(lm (λ_=>1) h.high+(lm (λ_=>1) h.gA+(1+(1+(1+(1+(1+(1+(1+0)))))))))+1
theorem Ra:sQ Bk zP 26 Dn 10 (λ_=>True) OV:=
 sQ.struct (fs:= #[qp 26 0,qp 26 1,qp 26 2,qp 26 3,qp 26 4,qp 26 5,qp 26 6,qp 26 7,qp 26 8,qp 26 9]) [qp 26 0,qp 26 1,qp 26 2,qp 26 3,qp 26 4,qp 26 5,qp 26 6,qp 26 7,qp 26 8,qp 26 9] (l9.cons (gC JM (by kernel_rfl)) (by kernel_rfl) (l9.cons (gC JM (by kernel_rfl)) (by kernel_rfl) (l9.cons (gC OU (by kernel_rfl)) (by kernel_rfl) (l9.cons (gC mD (by kernel_rfl)) (by kernel_rfl) (l9.cons (gC mD (by kernel_rfl)) (by kernel_rfl) (l9.cons (gC mD (by kernel_rfl)) (by kernel_rfl) (l9.cons (gC mD (by kernel_rfl)) (by kernel_rfl) (l9.cons (gC mD (by kernel_rfl)) (by kernel_rfl) (l9.cons (gC mD (by kernel_rfl)) (by kernel_rfl) (l9.cons (gC mD (by kernel_rfl)) (by kernel_rfl) l9.nil))))))))))
  (by kernel_rfl) rfl (by kernel_rfl) (by decide)
  (λb=>⟨b.1,b.2.1,b.2.2.1,b.2.2.2.1,b.2.2.2.2.1,b.2.2.2.2.2.1,b.2.2.2.2.2.2.1,b.2.2.2.2.2.2.2.1,b.2.2.2.2.2.2.2.2.1,b.2.2.2.2.2.2.2.2.2.1⟩) (λa=>(a.low,a.high,a.gA,a.top,a.jump,a.shift,a.lift,a.lR,a.eW,a.ie,())) (λb=>rfl) (λa=>rfl) (λb h=>trivial) (λb=>rfl)
theorem Rb:sQ Bk zP 51 jV 3 (λ_=>True) (λ_=>4):=
 sQ.struct (fs:= #[qp 51 0,qp 51 1,qp 51 2]) [qp 51 0,qp 51 1,qp 51 2] (l9.cons (gC mD (by kernel_rfl)) (by kernel_rfl) (l9.cons (gC mD (by kernel_rfl)) (by kernel_rfl) (l9.cons (gC mD (by kernel_rfl)) (by kernel_rfl) l9.nil)))
  (by kernel_rfl) rfl (by kernel_rfl) (by decide)
  (λb=>⟨b.1,b.2.1,b.2.2.1⟩) (λa=>(a.cw,a.cy,a.dK,())) (λb=>rfl) (λa=>rfl) (λb h=>trivial) (λb=>rfl)
theorem F5:sQ Bk zP 48 (SL jV) 1 (VB (λ_=>True)) (lm (λ_=>4)):=Rb.slice (by kernel_rfl) (by kernel_rfl)
theorem OW:sQ Bk zP 22 (SL (SL jV)) 1 (VB (VB λ_=>True)) (lm (lm (λ_=>4))):=F5.slice (by kernel_rfl) (by kernel_rfl)
def Yh(j:jW):Nat:=lm (lm (λ_=>4)) j.cR+(j.text.size+1+(OV j.hand+(1+0)))+1
theorem U6:sQ Bk zP 28 sd 13 (λ_=>True) Yh:=
 sQ.struct (fs:= #[qp 28 0,qp 28 1,qp 28 2,qp 28 3]) [qp 28 0,qp 28 1,qp 28 2,qp 28 3] (l9.cons (gC OW (by kernel_rfl)) (by kernel_rfl) (l9.cons (gC U5 (by kernel_rfl)) (by kernel_rfl) (l9.cons (gC Ra (by kernel_rfl)) (by kernel_rfl) (l9.cons (gC mD (by kernel_rfl)) (by kernel_rfl) l9.nil))))
  (by kernel_rfl) rfl (by kernel_rfl) (by decide)
  (λb=>⟨b.1,b.2.1,b.2.2.1,b.2.2.2.1⟩) (λa=>(a.cR,a.text,a.hand,a.shift,())) (λb=>rfl) (λa=>rfl) (λb h=>trivial) (λb=>rfl)
theorem OX: ∀l:List (List cj),(l.map List.length).sum<=lm (lm (λ_=>4)) l
 | []=>xC _
 |p::l=>by
  have h:=OX l;have h2:=Hy (m:=λ_:cj=>4) (λ_=>by omega) p;simp only[lm,wy,SA]at h h2 |-
  omega
theorem OY{j:jW}(h:Yh j<=1048576):j.cR.length<=1048576/\(j.cR.map List.length).sum<=1048576:=by
 have h3:=Hy F5.KL j.cR;have h4:=OX j.cR;have h2:lm (lm (λ_=>4)) j.cR+(j.text.size+1+(OV j.hand+(1+0)))+1<=1048576:=h;omega
end Go.Proofs.YtfdnjgoegamonaaGreatDoor
