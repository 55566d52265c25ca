/-
  How parts, instruments and numbers are read.
  Own work. No Go text.
-/
import Derived.Test.YtodkhgjhodmeoaaGreatVc
namespace Go.Proofs.YtodkhgjhodmeoaaGreat
open Go Go.Am Go.ChangeShapes Go.WideShapes Go.ChangeAt Go.RowKit Go.Deep
set_option maxRecDepth 100000
set_option linter.all false
theorem own : ownKnob Tryz.prog.godebug = none := by kernel_rfl
theorem kids : Kids Tryz.prog (· < Tryz.prog.types.size) := kids_rows (by kernel_rfl) (by kernel_rfl)
theorem full : ∀ t e, t < Tryz.prog.types.size → Tryz.prog.underlying t = some (.slice e) → 0 < Tryz.prog.cellsOf e := slices_full_of Tryz.prog (by kernel_rfl)
theorem rd_int : Rdg Bk Tryz.prog 3 (AV.int .i64) 1 (okI .i64) (fun _ => 1) := Rdg.int .i64 (by kernel_rfl) (by kernel_rfl)
theorem rd_ints : Rdg Bk Tryz.prog 69 (SL (AV.int .i64)) 1 (okL (okI .i64)) (lm (fun _ => 1)) := rd_int.slice (by kernel_rfl) (by kernel_rfl)
noncomputable def fld (t : TypeId) (i : Nat) : Field := match Tryz.prog.underlying t with
  | some (.struct fs) => fs.toList.getD i ⟨ "", 0, 0, false, "", "", 0⟩
  | _ => ⟨ "", 0, 0, false, "", "", 0⟩
theorem rd_field {t : TypeId} {i : Nat} {u : TypeId} {α : Type} {e : α → AV} {n : Nat} {ok : α → Prop} {m : α → Nat} (r : Rdg Bk Tryz.prog u e n ok m) (h : (fld t i).type = u) : Rdg Bk Tryz.prog (fld t i).type e n ok m := by rw [h]; exact r
def okTone (t : GTone) : Prop := okI .i64 t.pitch ∧ okI .i64 t.from_ ∧ okI .i64 t.to_
theorem rd_tone : Rdg Bk Tryz.prog 152 E_GTone 3 okTone (fun _ => 4) :=
  Rdg.struct (fs := #[fld 152 0, fld 152 1, fld 152 2]) [fld 152 0, fld 152 1, fld 152 2] (RdgF.cons (rd_field rd_int (by kernel_rfl)) (by kernel_rfl) (RdgF.cons (rd_field rd_int (by kernel_rfl)) (by kernel_rfl) (RdgF.cons (rd_field rd_int (by kernel_rfl)) (by kernel_rfl) RdgF.nil)))
    (by kernel_rfl) rfl (by kernel_rfl) (by decide)
    (fun b => ⟨b.1, b.2.1, b.2.2.1⟩) (fun a => (a.pitch, a.from_, a.to_, ())) (fun b => rfl) (fun a => rfl) (fun b h => ⟨h.1, h.2.1, h.2.2.1⟩) (fun b => rfl)
theorem rd_tones : Rdg Bk Tryz.prog 63 (SL E_GTone) 1 (okL okTone) (lm (fun _ => 4)) := rd_tone.slice (by kernel_rfl) (by kernel_rfl)
theorem rd_parts : Rdg Bk Tryz.prog 81 (SL (SL E_GTone)) 1 (okL (okL okTone)) (lm (lm (fun _ => 4))) := rd_tones.slice (by kernel_rfl) (by kernel_rfl)
theorem rd_bool : Rdg Bk Tryz.prog 4 AV.bool 1 (fun _ => True) (fun _ => 1) := Rdg.bool (by kernel_rfl) (by kernel_rfl)
def okCourse (c : GCourse) : Prop := okI .i64 c.pitch ∧ okI .i64 c.frets
theorem rd_course : Rdg Bk Tryz.prog 201 E_GCourse 3 okCourse (fun _ => 4) :=
  Rdg.struct (fs := #[fld 201 0, fld 201 1, fld 201 2]) [fld 201 0, fld 201 1, fld 201 2] (RdgF.cons (rd_field rd_int (by kernel_rfl)) (by kernel_rfl) (RdgF.cons (rd_field rd_int (by kernel_rfl)) (by kernel_rfl) (RdgF.cons (rd_field rd_bool (by kernel_rfl)) (by kernel_rfl) RdgF.nil)))
    (by kernel_rfl) rfl (by kernel_rfl) (by decide)
    (fun b => ⟨b.1, b.2.1, b.2.2.1⟩) (fun a => (a.pitch, a.frets, a.octave, ())) (fun b => rfl) (fun a => rfl) (fun b h => ⟨h.1, h.2.1⟩) (fun b => rfl)
theorem rd_courses : Rdg Bk Tryz.prog 68 (SL E_GCourse) 1 (okL okCourse) (lm (fun _ => 4)) := rd_course.slice (by kernel_rfl) (by kernel_rfl)
def okInst (a : GInstrument) : Prop := okL okCourse a.courses ∧ okL (okI .i64) a.steps
def mInst (a : GInstrument) : Nat := lm (fun _ => 4) a.courses + (lm (fun _ => 1) a.steps + 0) + 1
theorem rd_inst : Rdg Bk Tryz.prog 71 E_GInstrument 2 okInst mInst :=
  Rdg.struct (fs := #[fld 71 0, fld 71 1]) [fld 71 0, fld 71 1] (RdgF.cons (rd_field rd_courses (by kernel_rfl)) (by kernel_rfl) (RdgF.cons (rd_field rd_ints (by kernel_rfl)) (by kernel_rfl) RdgF.nil))
    (by kernel_rfl) rfl (by kernel_rfl) (by decide)
    (fun b => ⟨b.1, b.2.1⟩) (fun a => (a.courses, a.steps, ())) (fun b => rfl) (fun a => rfl) (fun b h => ⟨h.1, h.2.1⟩) (fun b => rfl)
theorem rd_insts : Rdg Bk Tryz.prog 82 (SL E_GInstrument) 1 (okL okInst) (lm mInst) := rd_inst.slice (by kernel_rfl) (by kernel_rfl)
end Go.Proofs.YtodkhgjhodmeoaaGreat
