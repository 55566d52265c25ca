/-
 How parts and instruments are read.
 Own work. No Go text.
-/
import Derived.Test.YtplpfocfcppajaaGreatRd
namespace Go.Proofs.YtplpfocfcppajaaGreat
open Go Go.Am Go.ChangeShapes Go.WideShapes Go.ChangeAt Go.RowKit Go.Deep
set_option maxRecDepth 100000
set_option linter.all false
theorem rd_parts : Rdg Bk Tryz.prog 22 (SL (SL E_GTone)) 1 (okL (okL okTone)) (lm (lm (fun _ => 4))) := rd_tones.slice (by kernel_rfl) (by kernel_rfl)
theorem rd_bool : Rdg Bk Tryz.prog 4 AV.bool 1 (fun _ => True) (fun _ => 1) := Rdg.bool (by kernel_rfl) (by kernel_rfl)
def okCourse (c : GCourse) : Prop := okI .i64 c.pitch ∧ okI .i64 c.frets
theorem rd_course : Rdg Bk Tryz.prog 109 E_GCourse 3 okCourse (fun _ => 4) :=
 Rdg.struct (fs := #[fld 109 0,fld 109 1,fld 109 2]) [fld 109 0,fld 109 1,fld 109 2] (RdgF.cons (rd_field rd_int (by kernel_rfl)) (by kernel_rfl) (RdgF.cons (rd_field rd_int (by kernel_rfl)) (by kernel_rfl) (RdgF.cons (rd_field rd_bool (by kernel_rfl)) (by kernel_rfl) RdgF.nil)))
  (by kernel_rfl) rfl (by kernel_rfl) (by decide)
  (fun b => ⟨b.1,b.2.1,b.2.2.1⟩) (fun a => (a.pitch,a.frets,a.octave,())) (fun b => rfl) (fun a => rfl) (fun b h => ⟨h.1,h.2.1⟩) (fun b => rfl)
theorem rd_courses : Rdg Bk Tryz.prog 23 (SL E_GCourse) 1 (okL okCourse) (lm (fun _ => 4)) := rd_course.slice (by kernel_rfl) (by kernel_rfl)
def okInst (a : GInstrument) : Prop := okL okCourse a.courses ∧ okL (okI .i64) a.steps
def mInst (a : GInstrument) : Nat := lm (fun _ => 4) a.courses + (lm (fun _ => 1) a.steps + 0) + 1
theorem rd_inst : Rdg Bk Tryz.prog 26 E_GInstrument 2 okInst mInst :=
 Rdg.struct (fs := #[fld 26 0,fld 26 1]) [fld 26 0,fld 26 1] (RdgF.cons (rd_field rd_courses (by kernel_rfl)) (by kernel_rfl) (RdgF.cons (rd_field rd_ints (by kernel_rfl)) (by kernel_rfl) RdgF.nil))
  (by kernel_rfl) rfl (by kernel_rfl) (by decide)
  (fun b => ⟨b.1,b.2.1⟩) (fun a => (a.courses,a.steps,())) (fun b => rfl) (fun a => rfl) (fun b h => ⟨h.1,h.2.1⟩) (fun b => rfl)
end Go.Proofs.YtplpfocfcppajaaGreat
