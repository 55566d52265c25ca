/-
  How consorts are read; the sizes of their lists.
  Own work. No Go text.
-/
import Derived.Test.YtodkhgjhodmeoaaGreatCc
set_option linter.all false
namespace Go.Proofs.YtodkhgjhodmeoaaGreat
open Go Go.Am Go.ChangeShapes Go.WideShapes Go.ChangeAt Go.RowKit Go.Deep
set_option maxRecDepth 100000
theorem own : ownKnob Tryz.prog.godebug = none := by kernel_rfl
theorem kids : Kids Tryz.prog (· < Tryz.prog.types.size) := kids_rows (by kernel_rfl) (by kernel_rfl)
theorem full : ∀ t e, t < Tryz.prog.types.size → Tryz.prog.underlying t = some (.slice e) → 0 < Tryz.prog.cellsOf e := slices_full_of Tryz.prog (by kernel_rfl)
theorem rd_int : Rdg Bk Tryz.prog 3 (AV.int .i64) 1 (okI .i64) (fun _ => 1) := Rdg.int .i64 (by kernel_rfl) (by kernel_rfl)
theorem rd_bool : Rdg Bk Tryz.prog 4 AV.bool 1 (fun _ => True) (fun _ => 1) := Rdg.bool (by kernel_rfl) (by kernel_rfl)
theorem rd_ints : Rdg Bk Tryz.prog 69 (SL (AV.int .i64)) 1 (okL (okI .i64)) (lm (fun _ => 1)) := rd_int.slice (by kernel_rfl) (by kernel_rfl)
noncomputable def fld (t : TypeId) (i : Nat) : Field := match Tryz.prog.underlying t with
  | some (.struct fs) => fs.toList.getD i ⟨ "", 0, 0, false, "", "", 0⟩
  | _ => ⟨ "", 0, 0, false, "", "", 0⟩
theorem rd_field {t : TypeId} {i : Nat} {u : TypeId} {α : Type} {e : α → AV} {n : Nat} {ok : α → Prop} {m : α → Nat} (r : Rdg Bk Tryz.prog u e n ok m) (h : (fld t i).type = u) : Rdg Bk Tryz.prog (fld t i).type e n ok m := by rw [h]; exact r
theorem rd_course : Rdg Bk Tryz.prog 201 E_GCourse 3 (fun _ => True) (fun _ => 4) :=
  Rdg.struct (fs := #[fld 201 0, fld 201 1, fld 201 2]) [fld 201 0, fld 201 1, fld 201 2] (RdgF.cons (rd_field rd_int (by kernel_rfl)) (by kernel_rfl) (RdgF.cons (rd_field rd_int (by kernel_rfl)) (by kernel_rfl) (RdgF.cons (rd_field rd_bool (by kernel_rfl)) (by kernel_rfl) RdgF.nil)))
    (by kernel_rfl) rfl (by kernel_rfl) (by decide)
    (fun b => ⟨b.1, b.2.1, b.2.2.1⟩) (fun a => (a.pitch, a.frets, a.octave, ())) (fun b => rfl) (fun a => rfl) (fun b h => trivial) (fun b => rfl)
theorem rd_courses : Rdg Bk Tryz.prog 68 (SL E_GCourse) 1 (okL fun _ => True) (lm (fun _ => 4)) := rd_course.slice (by kernel_rfl) (by kernel_rfl)
def mInst (a : GInstrument) : Nat := lm (fun _ => 4) a.courses + (lm (fun _ => 1) a.steps + 0) + 1
theorem rd_inst : Rdg Bk Tryz.prog 71 E_GInstrument 2 (fun _ => True) mInst :=
  Rdg.struct (fs := #[fld 71 0, fld 71 1]) [fld 71 0, fld 71 1] (RdgF.cons (rd_field rd_courses (by kernel_rfl)) (by kernel_rfl) (RdgF.cons (rd_field rd_ints (by kernel_rfl)) (by kernel_rfl) RdgF.nil))
    (by kernel_rfl) rfl (by kernel_rfl) (by decide)
    (fun b => ⟨b.1, b.2.1⟩) (fun a => (a.courses, a.steps, ())) (fun b => rfl) (fun a => rfl) (fun b h => trivial) (fun b => rfl)
theorem rd_sign : Rdg Bk Tryz.prog 140 E_GSign 3 (fun _ => True) (fun _ => 4) :=
  Rdg.struct (fs := #[fld 140 0, fld 140 1, fld 140 2]) [fld 140 0, fld 140 1, fld 140 2] (RdgF.cons (rd_field rd_int (by kernel_rfl)) (by kernel_rfl) (RdgF.cons (rd_field rd_bool (by kernel_rfl)) (by kernel_rfl) (RdgF.cons (rd_field rd_bool (by kernel_rfl)) (by kernel_rfl) RdgF.nil)))
    (by kernel_rfl) rfl (by kernel_rfl) (by decide)
    (fun b => ⟨b.1, b.2.1, b.2.2.1⟩) (fun a => (a.value, a.dot, a.three, ())) (fun b => rfl) (fun a => rfl) (fun b h => trivial) (fun b => rfl)
theorem rd_stop : Rdg Bk Tryz.prog 174 E_GStop 5 (fun _ => True) (fun _ => 6) :=
  Rdg.struct (fs := #[fld 174 0, fld 174 1, fld 174 2, fld 174 3, fld 174 4]) [fld 174 0, fld 174 1, fld 174 2, fld 174 3, fld 174 4] (RdgF.cons (rd_field rd_int (by kernel_rfl)) (by kernel_rfl) (RdgF.cons (rd_field rd_int (by kernel_rfl)) (by kernel_rfl) (RdgF.cons (rd_field rd_int (by kernel_rfl)) (by kernel_rfl) (RdgF.cons (rd_field rd_int (by kernel_rfl)) (by kernel_rfl) (RdgF.cons (rd_field rd_int (by kernel_rfl)) (by kernel_rfl) RdgF.nil)))))
    (by kernel_rfl) rfl (by kernel_rfl) (by decide)
    (fun b => ⟨b.1, b.2.1, b.2.2.1, b.2.2.2.1, b.2.2.2.2.1⟩) (fun a => (a.course, a.fret, a.right, a.grace, a.hold, ())) (fun b => rfl) (fun a => rfl) (fun b h => trivial) (fun b => rfl)
theorem rd_stops : Rdg Bk Tryz.prog 141 (SL E_GStop) 1 (okL fun _ => True) (lm (fun _ => 6)) := rd_stop.slice (by kernel_rfl) (by kernel_rfl)
def mEvent (e : GEvent) : Nat := 1 + (4 + (1 + (lm (fun _ => 6) e.stops + 0))) + 1
theorem rd_event : Rdg Bk Tryz.prog 143 E_GEvent 6 (fun _ => True) mEvent :=
  Rdg.struct (fs := #[fld 143 0, fld 143 1, fld 143 2, fld 143 3]) [fld 143 0, fld 143 1, fld 143 2, fld 143 3] (RdgF.cons (rd_field rd_bool (by kernel_rfl)) (by kernel_rfl) (RdgF.cons (rd_field rd_sign (by kernel_rfl)) (by kernel_rfl) (RdgF.cons (rd_field rd_bool (by kernel_rfl)) (by kernel_rfl) (RdgF.cons (rd_field rd_stops (by kernel_rfl)) (by kernel_rfl) RdgF.nil))))
    (by kernel_rfl) rfl (by kernel_rfl) (by decide)
    (fun b => ⟨b.1, b.2.1, b.2.2.1, b.2.2.2.1⟩) (fun a => (a.bar, a.sign, a.tie, a.stops, ())) (fun b => rfl) (fun a => rfl) (fun b h => trivial) (fun b => rfl)
theorem rd_events : Rdg Bk Tryz.prog 72 (SL E_GEvent) 1 (okL fun _ => True) (lm mEvent) := rd_event.slice (by kernel_rfl) (by kernel_rfl)
def mPiece (p : GPiece) : Nat := mInst p.instrument + (lm mEvent p.events + 0) + 1
theorem rd_piece : Rdg Bk Tryz.prog 74 E_GPiece 3 (fun _ => True) mPiece :=
  Rdg.struct (fs := #[fld 74 0, fld 74 1]) [fld 74 0, fld 74 1] (RdgF.cons (rd_field rd_inst (by kernel_rfl)) (by kernel_rfl) (RdgF.cons (rd_field rd_events (by kernel_rfl)) (by kernel_rfl) RdgF.nil))
    (by kernel_rfl) rfl (by kernel_rfl) (by decide)
    (fun b => ⟨b.1, b.2.1⟩) (fun a => (a.instrument, a.events, ())) (fun b => rfl) (fun a => rfl) (fun b h => trivial) (fun b => rfl)
end Go.Proofs.YtodkhgjhodmeoaaGreat
