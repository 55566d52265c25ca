/-
  How parts, instruments and numbers are read.
  Own work. No Go text.
-/
import Derived.Test.YtodkhgjhodmeoaaV
namespace Go.Proofs.Ytodkhgjhodmeoaa
open Go Go.Am Go.ChangeShapes Go.WideShapes Go.ChangeAt Go.RowKit Go.Deep
set_option maxRecDepth 100000
set_option linter.all false
theorem own : ownKnob Try.prog.godebug = none := by kernel_rfl
theorem kids : Kids Try.prog (· < Try.prog.types.size) := kids_rows (by kernel_rfl) (by kernel_rfl)
theorem full : ∀ t e, t < Try.prog.types.size → Try.prog.underlying t = some (.slice e) → 0 < Try.prog.cellsOf e := slices_full_of Try.prog (by kernel_rfl)
theorem rd_int : Rdg Bk Try.prog 3 (AV.int .i64) 1 (okI .i64) (fun _ => 1) := Rdg.int .i64 (by kernel_rfl) (by kernel_rfl)
theorem rd_ints : Rdg Bk Try.prog 24 (SL (AV.int .i64)) 1 (okL (okI .i64)) (lm (fun _ => 1)) := rd_int.slice (by kernel_rfl) (by kernel_rfl)
noncomputable def fld (t : TypeId) (i : Nat) : Field := match Try.prog.underlying t with
  | some (.struct fs) => fs.toList.getD i ⟨ "", 0, 0, false, "", "", 0⟩
  | _ => ⟨ "", 0, 0, false, "", "", 0⟩
theorem rd_field {t : TypeId} {i : Nat} {u : TypeId} {α : Type} {e : α → AV} {n : Nat} {ok : α → Prop} {m : α → Nat} (r : Rdg Bk Try.prog u e n ok m) (h : (fld t i).type = u) : Rdg Bk Try.prog (fld t i).type e n ok m := by rw [h]; exact r
def okTone (t : GTone) : Prop := okI .i64 t.pitch ∧ okI .i64 t.from_ ∧ okI .i64 t.to_
theorem rd_tone : Rdg Bk Try.prog 107 E_GTone 3 okTone (fun _ => 4) :=
  Rdg.struct (fs := #[fld 107 0, fld 107 1, fld 107 2]) [fld 107 0, fld 107 1, fld 107 2] (RdgF.cons (rd_field rd_int (by kernel_rfl)) (by kernel_rfl) (RdgF.cons (rd_field rd_int (by kernel_rfl)) (by kernel_rfl) (RdgF.cons (rd_field rd_int (by kernel_rfl)) (by kernel_rfl) RdgF.nil)))
    (by kernel_rfl) rfl (by kernel_rfl) (by decide)
    (fun b => ⟨b.1, b.2.1, b.2.2.1⟩) (fun a => (a.pitch, a.from_, a.to_, ())) (fun b => rfl) (fun a => rfl) (fun b h => ⟨h.1, h.2.1, h.2.2.1⟩) (fun b => rfl)
theorem rd_tones : Rdg Bk Try.prog 34 (SL E_GTone) 1 (okL okTone) (lm (fun _ => 4)) := rd_tone.slice (by kernel_rfl) (by kernel_rfl)
theorem rd_parts : Rdg Bk Try.prog 22 (SL (SL E_GTone)) 1 (okL (okL okTone)) (lm (lm (fun _ => 4))) := rd_tones.slice (by kernel_rfl) (by kernel_rfl)
theorem rd_bool : Rdg Bk Try.prog 4 AV.bool 1 (fun _ => True) (fun _ => 1) := Rdg.bool (by kernel_rfl) (by kernel_rfl)
def okCourse (c : GCourse) : Prop := okI .i64 c.pitch ∧ okI .i64 c.frets
theorem rd_course : Rdg Bk Try.prog 109 E_GCourse 3 okCourse (fun _ => 4) :=
  Rdg.struct (fs := #[fld 109 0, fld 109 1, fld 109 2]) [fld 109 0, fld 109 1, fld 109 2] (RdgF.cons (rd_field rd_int (by kernel_rfl)) (by kernel_rfl) (RdgF.cons (rd_field rd_int (by kernel_rfl)) (by kernel_rfl) (RdgF.cons (rd_field rd_bool (by kernel_rfl)) (by kernel_rfl) RdgF.nil)))
    (by kernel_rfl) rfl (by kernel_rfl) (by decide)
    (fun b => ⟨b.1, b.2.1, b.2.2.1⟩) (fun a => (a.pitch, a.frets, a.octave, ())) (fun b => rfl) (fun a => rfl) (fun b h => ⟨h.1, h.2.1⟩) (fun b => rfl)
theorem rd_courses : Rdg Bk Try.prog 53 (SL E_GCourse) 1 (okL okCourse) (lm (fun _ => 4)) := rd_course.slice (by kernel_rfl) (by kernel_rfl)
def okInst (a : GInstrument) : Prop := okL okCourse a.courses ∧ okL (okI .i64) a.steps
def mInst (a : GInstrument) : Nat := lm (fun _ => 4) a.courses + (lm (fun _ => 1) a.steps + 0) + 1
theorem rd_inst : Rdg Bk Try.prog 55 E_GInstrument 2 okInst mInst :=
  Rdg.struct (fs := #[fld 55 0, fld 55 1]) [fld 55 0, fld 55 1] (RdgF.cons (rd_field rd_courses (by kernel_rfl)) (by kernel_rfl) (RdgF.cons (rd_field rd_ints (by kernel_rfl)) (by kernel_rfl) RdgF.nil))
    (by kernel_rfl) rfl (by kernel_rfl) (by decide)
    (fun b => ⟨b.1, b.2.1⟩) (fun a => (a.courses, a.steps, ())) (fun b => rfl) (fun a => rfl) (fun b h => ⟨h.1, h.2.1⟩) (fun b => rfl)
theorem rd_insts : Rdg Bk Try.prog 23 (SL E_GInstrument) 1 (okL okInst) (lm mInst) := rd_inst.slice (by kernel_rfl) (by kernel_rfl)
end Go.Proofs.Ytodkhgjhodmeoaa
