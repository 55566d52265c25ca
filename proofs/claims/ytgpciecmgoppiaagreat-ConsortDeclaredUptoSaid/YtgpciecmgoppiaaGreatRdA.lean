/- How arguments are read. -/
import Derived.Test.YtgpciecmgoppiaaGreatTD
import Derived.Test.YtgpciecmgoppiaaGreatAm31
set_option linter.all false
namespace Go.Proofs.YtgpciecmgoppiaaGreat
open Go Go.Am Go.ChangeShapes Go.WideShapes Go.ChangeAt Go.RowKit Go.Deep
set_option maxRecDepth 100000
theorem own:ownKnob zP.godebug=none:=by kernel_rfl
theorem kids:Kids zP (· <zP.types.size):=kids_rows (by kernel_rfl) (by kernel_rfl)
theorem full: ∀t e,t<zP.types.size->zP.underlying t=some (.slice e)->0<zP.cellsOf e:=slices_full_of zP (by kernel_rfl)
theorem ku:rL Bk zP 3 (AV.int .i64) 1 (okI .i64) (λ_=>1):=rL.int .i64 (by kernel_rfl) (by kernel_rfl)
theorem JW:rL Bk zP 4 AV.bool 1 (λ_=>True) (λ_=>1):=rL.bool (by kernel_rfl) (by kernel_rfl)
theorem xP:rL Bk zP 36 (SL (AV.int .i64)) 1 (SK (okI .i64)) (lm (λ_=>1)):=ku.slice (by kernel_rfl) (by kernel_rfl)
theorem Ps:rL Bk zP 47 (SL AV.bool) 1 (SK λ_=>True) (lm (λ_=>1)):=JW.slice (by kernel_rfl) (by kernel_rfl)
noncomputable def nA(t:TypeId)(i:Nat):Field:=match zP.underlying t with
 | some (.struct fs) => fs.toList.getD i ⟨ "", 0, 0, false, "", "", 0⟩
 | _ => ⟨ "", 0, 0, false, "", "", 0⟩
theorem fh{t:TypeId}{i:Nat}{u:TypeId}{α:Type}{e:α->AV}{n:Nat}{ok:α->Prop}{m:α->Nat}(r:rL Bk zP u e n ok m)(h:(nA t i).type=u):rL Bk zP (nA t i).type e n ok m:=by rw[h];exact r
theorem LG:rL Bk zP 157 il 3 (λ_=>True) (λ_=>4):=
 rL.struct (fs:= #[nA 157 0,nA 157 1,nA 157 2]) [nA 157 0,nA 157 1,nA 157 2] (jW.cons (fh ku (by kernel_rfl)) (by kernel_rfl) (jW.cons (fh ku (by kernel_rfl)) (by kernel_rfl) (jW.cons (fh JW (by kernel_rfl)) (by kernel_rfl) jW.nil)))
  (by kernel_rfl) rfl (by kernel_rfl) (by decide)
  (λb=>⟨b.1,b.2.1,b.2.2.1⟩) (λa=>(a.bU,a.dJ,a.jb,())) (λb=>rfl) (λa=>rfl) (λb h=>trivial) (λb=>rfl)
theorem Ic:rL Bk zP 35 (SL il) 1 (SK λ_=>True) (lm (λ_=>4)):=LG.slice (by kernel_rfl) (by kernel_rfl)
def Pt(a:bp):Nat:=lm (λ_=>4) a.bQ+(lm (λ_=>1) a.br+0)+1
theorem RO:rL Bk zP 38 nZ 2 (λ_=>True) Pt:=
 rL.struct (fs:= #[nA 38 0,nA 38 1]) [nA 38 0,nA 38 1] (jW.cons (fh Ic (by kernel_rfl)) (by kernel_rfl) (jW.cons (fh xP (by kernel_rfl)) (by kernel_rfl) jW.nil))
  (by kernel_rfl) rfl (by kernel_rfl) (by decide)
  (λb=>⟨b.1,b.2.1⟩) (λa=>(a.bQ,a.br,())) (λb=>rfl) (λa=>rfl) (λb h=>trivial) (λb=>rfl)
def Pu(h:eE):Nat:=lm (λ_=>1) h.low+(lm (λ_=>1) h.high+(lm (λ_=>1) h.gb+(1+(1+(1+(1+(1+(1+(1+0)))))))))+1
theorem RP:rL Bk zP 49 Db 10 (λ_=>True) Pu:=
 rL.struct (fs:= #[nA 49 0,nA 49 1,nA 49 2,nA 49 3,nA 49 4,nA 49 5,nA 49 6,nA 49 7,nA 49 8,nA 49 9]) [nA 49 0,nA 49 1,nA 49 2,nA 49 3,nA 49 4,nA 49 5,nA 49 6,nA 49 7,nA 49 8,nA 49 9] (jW.cons (fh xP (by kernel_rfl)) (by kernel_rfl) (jW.cons (fh xP (by kernel_rfl)) (by kernel_rfl) (jW.cons (fh Ps (by kernel_rfl)) (by kernel_rfl) (jW.cons (fh ku (by kernel_rfl)) (by kernel_rfl) (jW.cons (fh ku (by kernel_rfl)) (by kernel_rfl) (jW.cons (fh ku (by kernel_rfl)) (by kernel_rfl) (jW.cons (fh ku (by kernel_rfl)) (by kernel_rfl) (jW.cons (fh ku (by kernel_rfl)) (by kernel_rfl) (jW.cons (fh ku (by kernel_rfl)) (by kernel_rfl) (jW.cons (fh ku (by kernel_rfl)) (by kernel_rfl) jW.nil))))))))))
  (by kernel_rfl) rfl (by kernel_rfl) (by decide)
  (λb=>⟨b.1,b.2.1,b.2.2.1,b.2.2.2.1,b.2.2.2.2.1,b.2.2.2.2.2.1,b.2.2.2.2.2.2.1,b.2.2.2.2.2.2.2.1,b.2.2.2.2.2.2.2.2.1,b.2.2.2.2.2.2.2.2.2.1⟩) (λa=>(a.low,a.high,a.gb,a.top,a.jump,a.shift,a.lift,a.kJ,a.eu,a.gD,())) (λb=>rfl) (λa=>rfl) (λb h=>trivial) (λb=>rfl)
theorem RQ:rL Bk zP 116 lU 3 (λ_=>True) (λ_=>4):=
 rL.struct (fs:= #[nA 116 0,nA 116 1,nA 116 2]) [nA 116 0,nA 116 1,nA 116 2] (jW.cons (fh ku (by kernel_rfl)) (by kernel_rfl) (jW.cons (fh ku (by kernel_rfl)) (by kernel_rfl) (jW.cons (fh ku (by kernel_rfl)) (by kernel_rfl) jW.nil)))
  (by kernel_rfl) rfl (by kernel_rfl) (by decide)
  (λb=>⟨b.1,b.2.1,b.2.2.1⟩) (λa=>(a.bU,a.bP,a.dr,())) (λb=>rfl) (λa=>rfl) (λb h=>trivial) (λb=>rfl)
theorem FZ:rL Bk zP 52 (SL lU) 1 (SK (λ_=>True)) (lm (λ_=>4)):=RQ.slice (by kernel_rfl) (by kernel_rfl)
theorem Pv:rL Bk zP 22 (SL (SL lU)) 1 (SK (SK λ_=>True)) (lm (lm (λ_=>4))):=FZ.slice (by kernel_rfl) (by kernel_rfl)
def BV(d:kF):Nat:=Pt d.instrument+(Pu d.hand+(lm (λ_=>1) d.bW+(1+0)))+1
theorem JX:rL Bk zP 51 uG 14 (λ_=>True) BV:=
 rL.struct (fs:= #[nA 51 0,nA 51 1,nA 51 2,nA 51 3]) [nA 51 0,nA 51 1,nA 51 2,nA 51 3] (jW.cons (fh RO (by kernel_rfl)) (by kernel_rfl) (jW.cons (fh RP (by kernel_rfl)) (by kernel_rfl) (jW.cons (fh xP (by kernel_rfl)) (by kernel_rfl) (jW.cons (fh ku (by kernel_rfl)) (by kernel_rfl) jW.nil))))
  (by kernel_rfl) rfl (by kernel_rfl) (by decide)
  (λb=>⟨b.1,b.2.1,b.2.2.1,b.2.2.2.1⟩) (λa=>(a.instrument,a.hand,a.bW,a.shift,())) (λb=>rfl) (λa=>rfl) (λb h=>trivial) (λb=>rfl)
theorem Pw:rL Bk zP 23 (SL uG) 1 (SK λ_=>True) (lm BV):=JX.slice (by kernel_rfl) (by kernel_rfl)
end Go.Proofs.YtgpciecmgoppiaaGreat
