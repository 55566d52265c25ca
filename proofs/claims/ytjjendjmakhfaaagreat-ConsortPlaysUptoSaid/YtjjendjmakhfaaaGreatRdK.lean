/-
  How consorts are read; the sizes of their lists.
  Own work. No Go text.
-/
import Derived.Test.YtjjendjmakhfaaaGreatCc
set_option linter.all false
namespace Go.Proofs.YtjjendjmakhfaaaGreat
open Go Go.Am Go.ChangeShapes Go.WideShapes Go.ChangeAt Go.RowKit Go.Deep
set_option maxRecDepth 100000
theorem own : ownKnob Tryz.prog.godebug = none := by kernel_rfl
theorem kids : Kids Tryz.prog (· < Tryz.prog.types.size) := kids_rows (by kernel_rfl) (by kernel_rfl)
theorem full : ∀ t e, t < Tryz.prog.types.size → Tryz.prog.underlying t = some (.slice e) → 0 < Tryz.prog.cellsOf e := slices_full_of Tryz.prog (by kernel_rfl)
theorem rd_int : Rdg Bk Tryz.prog 3 (AV.int .i64) 1 (okI .i64) (fun _ => 1) := Rdg.int .i64 (by kernel_rfl) (by kernel_rfl)
theorem rd_bool : Rdg Bk Tryz.prog 4 AV.bool 1 (fun _ => True) (fun _ => 1) := Rdg.bool (by kernel_rfl) (by kernel_rfl)
theorem rd_ints : Rdg Bk Tryz.prog 54 (SL (AV.int .i64)) 1 (okL (okI .i64)) (lm (fun _ => 1)) := rd_int.slice (by kernel_rfl) (by kernel_rfl)
noncomputable def fld (t : TypeId) (i : Nat) : Field := match Tryz.prog.underlying t with
  | some (.struct fs) => fs.toList.getD i ⟨ "", 0, 0, false, "", "", 0⟩
  | _ => ⟨ "", 0, 0, false, "", "", 0⟩
theorem rd_field {t : TypeId} {i : Nat} {u : TypeId} {α : Type} {e : α → AV} {n : Nat} {ok : α → Prop} {m : α → Nat} (r : Rdg Bk Tryz.prog u e n ok m) (h : (fld t i).type = u) : Rdg Bk Tryz.prog (fld t i).type e n ok m := by rw [h]; exact r
theorem rd_course : Rdg Bk Tryz.prog 174 E_GCourse 3 (fun _ => True) (fun _ => 4) :=
  Rdg.struct (fs := #[fld 174 0, fld 174 1, fld 174 2]) [fld 174 0, fld 174 1, fld 174 2] (RdgF.cons (rd_field rd_int (by kernel_rfl)) (by kernel_rfl) (RdgF.cons (rd_field rd_int (by kernel_rfl)) (by kernel_rfl) (RdgF.cons (rd_field rd_bool (by kernel_rfl)) (by kernel_rfl) RdgF.nil)))
    (by kernel_rfl) rfl (by kernel_rfl) (by decide)
    (fun b => ⟨b.1, b.2.1, b.2.2.1⟩) (fun a => (a.pitch, a.frets, a.octave, ())) (fun b => rfl) (fun a => rfl) (fun b h => trivial) (fun b => rfl)
theorem rd_courses : Rdg Bk Tryz.prog 59 (SL E_GCourse) 1 (okL fun _ => True) (lm (fun _ => 4)) := rd_course.slice (by kernel_rfl) (by kernel_rfl)
def mInst (a : GInstrument) : Nat := lm (fun _ => 4) a.courses + (lm (fun _ => 1) a.steps + 0) + 1
theorem rd_inst : Rdg Bk Tryz.prog 61 E_GInstrument 2 (fun _ => True) mInst :=
  Rdg.struct (fs := #[fld 61 0, fld 61 1]) [fld 61 0, fld 61 1] (RdgF.cons (rd_field rd_courses (by kernel_rfl)) (by kernel_rfl) (RdgF.cons (rd_field rd_ints (by kernel_rfl)) (by kernel_rfl) RdgF.nil))
    (by kernel_rfl) rfl (by kernel_rfl) (by decide)
    (fun b => ⟨b.1, b.2.1⟩) (fun a => (a.courses, a.steps, ())) (fun b => rfl) (fun a => rfl) (fun b h => trivial) (fun b => rfl)
theorem rd_sign : Rdg Bk Tryz.prog 122 E_GSign 3 (fun _ => True) (fun _ => 4) :=
  Rdg.struct (fs := #[fld 122 0, fld 122 1, fld 122 2]) [fld 122 0, fld 122 1, fld 122 2] (RdgF.cons (rd_field rd_int (by kernel_rfl)) (by kernel_rfl) (RdgF.cons (rd_field rd_bool (by kernel_rfl)) (by kernel_rfl) (RdgF.cons (rd_field rd_bool (by kernel_rfl)) (by kernel_rfl) RdgF.nil)))
    (by kernel_rfl) rfl (by kernel_rfl) (by decide)
    (fun b => ⟨b.1, b.2.1, b.2.2.1⟩) (fun a => (a.value, a.dot, a.three, ())) (fun b => rfl) (fun a => rfl) (fun b h => trivial) (fun b => rfl)
theorem rd_stop : Rdg Bk Tryz.prog 124 E_GStop 5 (fun _ => True) (fun _ => 6) :=
  Rdg.struct (fs := #[fld 124 0, fld 124 1, fld 124 2, fld 124 3, fld 124 4]) [fld 124 0, fld 124 1, fld 124 2, fld 124 3, fld 124 4] (RdgF.cons (rd_field rd_int (by kernel_rfl)) (by kernel_rfl) (RdgF.cons (rd_field rd_int (by kernel_rfl)) (by kernel_rfl) (RdgF.cons (rd_field rd_int (by kernel_rfl)) (by kernel_rfl) (RdgF.cons (rd_field rd_int (by kernel_rfl)) (by kernel_rfl) (RdgF.cons (rd_field rd_int (by kernel_rfl)) (by kernel_rfl) RdgF.nil)))))
    (by kernel_rfl) rfl (by kernel_rfl) (by decide)
    (fun b => ⟨b.1, b.2.1, b.2.2.1, b.2.2.2.1, b.2.2.2.2.1⟩) (fun a => (a.course, a.fret, a.right, a.grace, a.hold, ())) (fun b => rfl) (fun a => rfl) (fun b h => trivial) (fun b => rfl)
theorem rd_stops : Rdg Bk Tryz.prog 125 (SL E_GStop) 1 (okL fun _ => True) (lm (fun _ => 6)) := rd_stop.slice (by kernel_rfl) (by kernel_rfl)
def mEvent (e : GEvent) : Nat := 1 + (4 + (1 + (lm (fun _ => 6) e.stops + 0))) + 1
theorem rd_event : Rdg Bk Tryz.prog 127 E_GEvent 6 (fun _ => True) mEvent :=
  Rdg.struct (fs := #[fld 127 0, fld 127 1, fld 127 2, fld 127 3]) [fld 127 0, fld 127 1, fld 127 2, fld 127 3] (RdgF.cons (rd_field rd_bool (by kernel_rfl)) (by kernel_rfl) (RdgF.cons (rd_field rd_sign (by kernel_rfl)) (by kernel_rfl) (RdgF.cons (rd_field rd_bool (by kernel_rfl)) (by kernel_rfl) (RdgF.cons (rd_field rd_stops (by kernel_rfl)) (by kernel_rfl) RdgF.nil))))
    (by kernel_rfl) rfl (by kernel_rfl) (by decide)
    (fun b => ⟨b.1, b.2.1, b.2.2.1, b.2.2.2.1⟩) (fun a => (a.bar, a.sign, a.tie, a.stops, ())) (fun b => rfl) (fun a => rfl) (fun b h => trivial) (fun b => rfl)
theorem rd_events : Rdg Bk Tryz.prog 62 (SL E_GEvent) 1 (okL fun _ => True) (lm mEvent) := rd_event.slice (by kernel_rfl) (by kernel_rfl)
def mPiece (p : GPiece) : Nat := mInst p.instrument + (lm mEvent p.events + 0) + 1
theorem rd_piece : Rdg Bk Tryz.prog 64 E_GPiece 3 (fun _ => True) mPiece :=
  Rdg.struct (fs := #[fld 64 0, fld 64 1]) [fld 64 0, fld 64 1] (RdgF.cons (rd_field rd_inst (by kernel_rfl)) (by kernel_rfl) (RdgF.cons (rd_field rd_events (by kernel_rfl)) (by kernel_rfl) RdgF.nil))
    (by kernel_rfl) rfl (by kernel_rfl) (by decide)
    (fun b => ⟨b.1, b.2.1⟩) (fun a => (a.instrument, a.events, ())) (fun b => rfl) (fun a => rfl) (fun b h => trivial) (fun b => rfl)
theorem rd_pieces : Rdg Bk Tryz.prog 22 (SL E_GPiece) 1 (okL fun _ => True) (lm mPiece) := rd_piece.slice (by kernel_rfl) (by kernel_rfl)
def mCons (c : GConsort) : Nat := lm mPiece c.pieces + 0 + 1
theorem rd_cons : Rdg Bk Tryz.prog 24 E_GConsort 1 (fun _ => True) mCons :=
  Rdg.struct (fs := #[fld 24 0]) [fld 24 0] (RdgF.cons (rd_field rd_pieces (by kernel_rfl)) (by kernel_rfl) RdgF.nil)
    (by kernel_rfl) rfl (by kernel_rfl) (by decide)
    (fun b => ⟨b.1⟩) (fun a => (a.pieces, ())) (fun b => rfl) (fun a => rfl) (fun b h => trivial) (fun b => rfl)
theorem size_of {l : List GPiece} (h : lm mPiece l ≤ 1048576) : SizeC l := by
  have h1 := lm_len rd_piece.mpos l
  refine ⟨by simp only [Small]; omega, fun p hp => ?_⟩
  have h2 := lm_mem (m := mPiece) hp
  unfold mPiece at h2
  have h3 := lm_len rd_event.mpos p.events
  have h2' : mInst p.instrument + (lm mEvent p.events + 0) + 1 ≤ lm mPiece l := h2
  refine ⟨by simp only [Small]; omega, fun e he => ?_⟩
  have h4 := lm_mem (m := mEvent) he
  have h4' : 1 + (4 + (1 + (lm (fun _ => 6) e.stops + 0))) + 1 ≤ lm mEvent p.events := h4
  have h5 := lm_len rd_stop.mpos e.stops
  simp only [Small]; omega
theorem size_ofC {c : GConsort} (h : mCons c ≤ 1048576) : SizeC c.pieces := by
  unfold mCons at h
  exact size_of (by omega)
end Go.Proofs.YtjjendjmakhfaaaGreat
