/-
  How consorts are read; the sizes of their lists.
  Own work. No Go text.
-/
import Derived.Test.YtpljabnngpnieaaV32
import Derived.Test.YtpljabnngpnieaaV11
import Derived.Test.YtpljabnngpnieaaPv
set_option linter.all false
namespace Go.Proofs.Ytpljabnngpnieaa
open Go Go.Am Go.ChangeShapes Go.WideShapes Go.ChangeAt Go.RowKit Go.Deep
set_option maxRecDepth 100000
theorem own : ownKnob Try.prog.godebug = none := by kernel_rfl
theorem kids : Kids Try.prog (· < Try.prog.types.size) := kids_rows (by kernel_rfl) (by kernel_rfl)
theorem full : ∀ t e, t < Try.prog.types.size → Try.prog.underlying t = some (.slice e) → 0 < Try.prog.cellsOf e := slices_full_of Try.prog (by kernel_rfl)
theorem rd_int : Rdg Bk Try.prog 3 (AV.int .i64) 1 (okI .i64) (fun _ => 1) := Rdg.int .i64 (by kernel_rfl) (by kernel_rfl)
theorem rd_bool : Rdg Bk Try.prog 4 AV.bool 1 (fun _ => True) (fun _ => 1) := Rdg.bool (by kernel_rfl) (by kernel_rfl)
theorem rd_ints : Rdg Bk Try.prog 67 (SL (AV.int .i64)) 1 (okL (okI .i64)) (lm (fun _ => 1)) := rd_int.slice (by kernel_rfl) (by kernel_rfl)
noncomputable def fld (t : TypeId) (i : Nat) : Field := match Try.prog.underlying t with
  | some (.struct fs) => fs.toList.getD i ⟨ "", 0, 0, false, "", "", 0⟩
  | _ => ⟨ "", 0, 0, false, "", "", 0⟩
theorem rd_field {t : TypeId} {i : Nat} {u : TypeId} {α : Type} {e : α → AV} {n : Nat} {ok : α → Prop} {m : α → Nat} (r : Rdg Bk Try.prog u e n ok m) (h : (fld t i).type = u) : Rdg Bk Try.prog (fld t i).type e n ok m := by rw [h]; exact r
theorem rd_course : Rdg Bk Try.prog 157 E_GCourse 3 (fun _ => True) (fun _ => 4) :=
  Rdg.struct (fs := #[fld 157 0, fld 157 1, fld 157 2]) [fld 157 0, fld 157 1, fld 157 2] (RdgF.cons (rd_field rd_int (by kernel_rfl)) (by kernel_rfl) (RdgF.cons (rd_field rd_int (by kernel_rfl)) (by kernel_rfl) (RdgF.cons (rd_field rd_bool (by kernel_rfl)) (by kernel_rfl) RdgF.nil)))
    (by kernel_rfl) rfl (by kernel_rfl) (by decide)
    (fun b => ⟨b.1, b.2.1, b.2.2.1⟩) (fun a => (a.pitch, a.frets, a.octave, ())) (fun b => rfl) (fun a => rfl) (fun b h => trivial) (fun b => rfl)
theorem rd_courses : Rdg Bk Try.prog 66 (SL E_GCourse) 1 (okL fun _ => True) (lm (fun _ => 4)) := rd_course.slice (by kernel_rfl) (by kernel_rfl)
def mInst (a : GInstrument) : Nat := lm (fun _ => 4) a.courses + (lm (fun _ => 1) a.steps + 0) + 1
theorem rd_inst : Rdg Bk Try.prog 69 E_GInstrument 2 (fun _ => True) mInst :=
  Rdg.struct (fs := #[fld 69 0, fld 69 1]) [fld 69 0, fld 69 1] (RdgF.cons (rd_field rd_courses (by kernel_rfl)) (by kernel_rfl) (RdgF.cons (rd_field rd_ints (by kernel_rfl)) (by kernel_rfl) RdgF.nil))
    (by kernel_rfl) rfl (by kernel_rfl) (by decide)
    (fun b => ⟨b.1, b.2.1⟩) (fun a => (a.courses, a.steps, ())) (fun b => rfl) (fun a => rfl) (fun b h => trivial) (fun b => rfl)
theorem rd_sign : Rdg Bk Try.prog 110 E_GSign 3 (fun _ => True) (fun _ => 4) :=
  Rdg.struct (fs := #[fld 110 0, fld 110 1, fld 110 2]) [fld 110 0, fld 110 1, fld 110 2] (RdgF.cons (rd_field rd_int (by kernel_rfl)) (by kernel_rfl) (RdgF.cons (rd_field rd_bool (by kernel_rfl)) (by kernel_rfl) (RdgF.cons (rd_field rd_bool (by kernel_rfl)) (by kernel_rfl) RdgF.nil)))
    (by kernel_rfl) rfl (by kernel_rfl) (by decide)
    (fun b => ⟨b.1, b.2.1, b.2.2.1⟩) (fun a => (a.value, a.dot, a.three, ())) (fun b => rfl) (fun a => rfl) (fun b h => trivial) (fun b => rfl)
theorem rd_stop : Rdg Bk Try.prog 112 E_GStop 5 (fun _ => True) (fun _ => 6) :=
  Rdg.struct (fs := #[fld 112 0, fld 112 1, fld 112 2, fld 112 3, fld 112 4]) [fld 112 0, fld 112 1, fld 112 2, fld 112 3, fld 112 4] (RdgF.cons (rd_field rd_int (by kernel_rfl)) (by kernel_rfl) (RdgF.cons (rd_field rd_int (by kernel_rfl)) (by kernel_rfl) (RdgF.cons (rd_field rd_int (by kernel_rfl)) (by kernel_rfl) (RdgF.cons (rd_field rd_int (by kernel_rfl)) (by kernel_rfl) (RdgF.cons (rd_field rd_int (by kernel_rfl)) (by kernel_rfl) RdgF.nil)))))
    (by kernel_rfl) rfl (by kernel_rfl) (by decide)
    (fun b => ⟨b.1, b.2.1, b.2.2.1, b.2.2.2.1, b.2.2.2.2.1⟩) (fun a => (a.course, a.fret, a.right, a.grace, a.hold, ())) (fun b => rfl) (fun a => rfl) (fun b h => trivial) (fun b => rfl)
theorem rd_stops : Rdg Bk Try.prog 113 (SL E_GStop) 1 (okL fun _ => True) (lm (fun _ => 6)) := rd_stop.slice (by kernel_rfl) (by kernel_rfl)
def mEvent (e : GEvent) : Nat := 1 + (4 + (1 + (lm (fun _ => 6) e.stops + 0))) + 1
theorem rd_event : Rdg Bk Try.prog 115 E_GEvent 6 (fun _ => True) mEvent :=
  Rdg.struct (fs := #[fld 115 0, fld 115 1, fld 115 2, fld 115 3]) [fld 115 0, fld 115 1, fld 115 2, fld 115 3] (RdgF.cons (rd_field rd_bool (by kernel_rfl)) (by kernel_rfl) (RdgF.cons (rd_field rd_sign (by kernel_rfl)) (by kernel_rfl) (RdgF.cons (rd_field rd_bool (by kernel_rfl)) (by kernel_rfl) (RdgF.cons (rd_field rd_stops (by kernel_rfl)) (by kernel_rfl) RdgF.nil))))
    (by kernel_rfl) rfl (by kernel_rfl) (by decide)
    (fun b => ⟨b.1, b.2.1, b.2.2.1, b.2.2.2.1⟩) (fun a => (a.bar, a.sign, a.tie, a.stops, ())) (fun b => rfl) (fun a => rfl) (fun b h => trivial) (fun b => rfl)
theorem rd_events : Rdg Bk Try.prog 70 (SL E_GEvent) 1 (okL fun _ => True) (lm mEvent) := rd_event.slice (by kernel_rfl) (by kernel_rfl)
def mPiece (p : GPiece) : Nat := mInst p.instrument + (lm mEvent p.events + 0) + 1
theorem rd_piece : Rdg Bk Try.prog 72 E_GPiece 3 (fun _ => True) mPiece :=
  Rdg.struct (fs := #[fld 72 0, fld 72 1]) [fld 72 0, fld 72 1] (RdgF.cons (rd_field rd_inst (by kernel_rfl)) (by kernel_rfl) (RdgF.cons (rd_field rd_events (by kernel_rfl)) (by kernel_rfl) RdgF.nil))
    (by kernel_rfl) rfl (by kernel_rfl) (by decide)
    (fun b => ⟨b.1, b.2.1⟩) (fun a => (a.instrument, a.events, ())) (fun b => rfl) (fun a => rfl) (fun b h => trivial) (fun b => rfl)
theorem rd_pieces : Rdg Bk Try.prog 22 (SL E_GPiece) 1 (okL fun _ => True) (lm mPiece) := rd_piece.slice (by kernel_rfl) (by kernel_rfl)
def mCons (c : GConsort) : Nat := lm mPiece c.pieces + 0 + 1
theorem rd_cons : Rdg Bk Try.prog 24 E_GConsort 1 (fun _ => True) mCons :=
  Rdg.struct (fs := #[fld 24 0]) [fld 24 0] (RdgF.cons (rd_field rd_pieces (by kernel_rfl)) (by kernel_rfl) RdgF.nil)
    (by kernel_rfl) rfl (by kernel_rfl) (by decide)
    (fun b => ⟨b.1⟩) (fun a => (a.pieces, ())) (fun b => rfl) (fun a => rfl) (fun b h => trivial) (fun b => rfl)
theorem size_of {c : GConsort} (h : mCons c ≤ 1048576) : SizeC c.pieces := by
  unfold mCons at h
  have h1 := lm_len rd_piece.mpos c.pieces
  refine ⟨by simp only [Small]; omega, fun p hp => ?_⟩
  have h2 := lm_mem (m := mPiece) hp
  unfold mPiece at h2
  have h3 := lm_len rd_event.mpos p.events
  have h2' : mInst p.instrument + (lm mEvent p.events + 0) + 1 ≤ lm mPiece c.pieces := h2
  refine ⟨by simp only [Small]; omega, fun e he => ?_⟩
  have h4 := lm_mem (m := mEvent) he
  have h4' : 1 + (4 + (1 + (lm (fun _ => 6) e.stops + 0))) + 1 ≤ lm mEvent p.events := h4
  have h5 := lm_len rd_stop.mpos e.stops
  simp only [Small]; omega
end Go.Proofs.Ytpljabnngpnieaa
