/-
  How arguments are read.
  Own work (printed by gen/rdgen.py). No Go text.
-/
import Derived.Test.YtpbahncblggodaaGreatTD
import Derived.Test.YtpbahncblggodaaGreatAm31
set_option linter.all false
namespace Go.Proofs.YtpbahncblggodaaGreat
open Go Go.Am Go.ChangeShapes Go.WideShapes Go.ChangeAt Go.RowKit Go.Deep
set_option maxRecDepth 100000
theorem own:ownKnob Tryz.prog.godebug=none:=by kernel_rfl
theorem kids:Kids Tryz.prog (· <Tryz.prog.types.size):=kids_rows (by kernel_rfl) (by kernel_rfl)
theorem full: ∀t e,t<Tryz.prog.types.size->Tryz.prog.underlying t=some (.slice e)->0<Tryz.prog.cellsOf e:=slices_full_of Tryz.prog (by kernel_rfl)
theorem rd_int:Rdg Bk Tryz.prog 3 (AV.int .i64) 1 (okI .i64) (λ_=>1):=Rdg.int .i64 (by kernel_rfl) (by kernel_rfl)
theorem rd_bool:Rdg Bk Tryz.prog 4 AV.bool 1 (λ_=>True) (λ_=>1):=Rdg.bool (by kernel_rfl) (by kernel_rfl)
theorem rd_ints:Rdg Bk Tryz.prog 24 (SL (AV.int .i64)) 1 (okL (okI .i64)) (lm (λ_=>1)):=rd_int.slice (by kernel_rfl) (by kernel_rfl)
theorem rd_bools:Rdg Bk Tryz.prog 27 (SL AV.bool) 1 (okL λ_=>True) (lm (λ_=>1)):=rd_bool.slice (by kernel_rfl) (by kernel_rfl)
noncomputable def fld(t:TypeId)(i:Nat):Field:=match Tryz.prog.underlying t with
 | some (.struct fs) => fs.toList.getD i ⟨ "", 0, 0, false, "", "", 0⟩
 | _ => ⟨ "", 0, 0, false, "", "", 0⟩
theorem rd_field{t:TypeId}{i:Nat}{u:TypeId}{α:Type}{e:α->AV}{n:Nat}{ok:α->Prop}{m:α->Nat}(r:Rdg Bk Tryz.prog u e n ok m)(h:(fld t i).type=u):Rdg Bk Tryz.prog (fld t i).type e n ok m:=by rw[h];exact r
theorem rd_course:Rdg Bk Tryz.prog 49 E_GCourse 3 (λ_=>True) (λ_=>4):=
 Rdg.struct (fs:= #[fld 49 0,fld 49 1,fld 49 2]) [fld 49 0,fld 49 1,fld 49 2] (RdgF.cons (rd_field rd_int (by kernel_rfl)) (by kernel_rfl) (RdgF.cons (rd_field rd_int (by kernel_rfl)) (by kernel_rfl) (RdgF.cons (rd_field rd_bool (by kernel_rfl)) (by kernel_rfl) RdgF.nil)))
  (by kernel_rfl) rfl (by kernel_rfl) (by decide)
  (λb=>⟨b.1,b.2.1,b.2.2.1⟩) (λa=>(a.pitch,a.frets,a.octave,())) (λb=>rfl) (λa=>rfl) (λb h=>trivial) (λb=>rfl)
theorem rd_courses:Rdg Bk Tryz.prog 23 (SL E_GCourse) 1 (okL λ_=>True) (lm (λ_=>4)):=rd_course.slice (by kernel_rfl) (by kernel_rfl)
def mInst(a:GInstrument):Nat:=lm (λ_=>4) a.courses+(lm (λ_=>1) a.steps+0)+1
theorem rd_inst:Rdg Bk Tryz.prog 26 E_GInstrument 2 (λ_=>True) mInst:=
 Rdg.struct (fs:= #[fld 26 0,fld 26 1]) [fld 26 0,fld 26 1] (RdgF.cons (rd_field rd_courses (by kernel_rfl)) (by kernel_rfl) (RdgF.cons (rd_field rd_ints (by kernel_rfl)) (by kernel_rfl) RdgF.nil))
  (by kernel_rfl) rfl (by kernel_rfl) (by decide)
  (λb=>⟨b.1,b.2.1⟩) (λa=>(a.courses,a.steps,())) (λb=>rfl) (λa=>rfl) (λb h=>trivial) (λb=>rfl)
def mHand(h:GHand):Nat:=lm (λ_=>1) h.low+(lm (λ_=>1) h.high+(lm (λ_=>1) h.barre+(1+(1+(1+(1+(1+(1+(1+0)))))))))+1
theorem rd_hand:Rdg Bk Tryz.prog 29 E_GHand 10 (λ_=>True) mHand:=
 Rdg.struct (fs:= #[fld 29 0,fld 29 1,fld 29 2,fld 29 3,fld 29 4,fld 29 5,fld 29 6,fld 29 7,fld 29 8,fld 29 9]) [fld 29 0,fld 29 1,fld 29 2,fld 29 3,fld 29 4,fld 29 5,fld 29 6,fld 29 7,fld 29 8,fld 29 9] (RdgF.cons (rd_field rd_ints (by kernel_rfl)) (by kernel_rfl) (RdgF.cons (rd_field rd_ints (by kernel_rfl)) (by kernel_rfl) (RdgF.cons (rd_field rd_bools (by kernel_rfl)) (by kernel_rfl) (RdgF.cons (rd_field rd_int (by kernel_rfl)) (by kernel_rfl) (RdgF.cons (rd_field rd_int (by kernel_rfl)) (by kernel_rfl) (RdgF.cons (rd_field rd_int (by kernel_rfl)) (by kernel_rfl) (RdgF.cons (rd_field rd_int (by kernel_rfl)) (by kernel_rfl) (RdgF.cons (rd_field rd_int (by kernel_rfl)) (by kernel_rfl) (RdgF.cons (rd_field rd_int (by kernel_rfl)) (by kernel_rfl) (RdgF.cons (rd_field rd_int (by kernel_rfl)) (by kernel_rfl) RdgF.nil))))))))))
  (by kernel_rfl) rfl (by kernel_rfl) (by decide)
  (λb=>⟨b.1,b.2.1,b.2.2.1,b.2.2.2.1,b.2.2.2.2.1,b.2.2.2.2.2.1,b.2.2.2.2.2.2.1,b.2.2.2.2.2.2.2.1,b.2.2.2.2.2.2.2.2.1,b.2.2.2.2.2.2.2.2.2.1⟩) (λa=>(a.low,a.high,a.barre,a.top,a.jump,a.shift,a.lift,a.bar,a.stretch,a.slide,())) (λb=>rfl) (λa=>rfl) (λb h=>trivial) (λb=>rfl)
theorem rd_tone:Rdg Bk Tryz.prog 72 E_GTone 3 (λ_=>True) (λ_=>4):=
 Rdg.struct (fs:= #[fld 72 0,fld 72 1,fld 72 2]) [fld 72 0,fld 72 1,fld 72 2] (RdgF.cons (rd_field rd_int (by kernel_rfl)) (by kernel_rfl) (RdgF.cons (rd_field rd_int (by kernel_rfl)) (by kernel_rfl) (RdgF.cons (rd_field rd_int (by kernel_rfl)) (by kernel_rfl) RdgF.nil)))
  (by kernel_rfl) rfl (by kernel_rfl) (by decide)
  (λb=>⟨b.1,b.2.1,b.2.2.1⟩) (λa=>(a.pitch,a.from_,a.to_,())) (λb=>rfl) (λa=>rfl) (λb h=>trivial) (λb=>rfl)
theorem rd_tones:Rdg Bk Tryz.prog 45 (SL E_GTone) 1 (okL (λ_=>True)) (lm (λ_=>4)):=rd_tone.slice (by kernel_rfl) (by kernel_rfl)
end Go.Proofs.YtpbahncblggodaaGreat
