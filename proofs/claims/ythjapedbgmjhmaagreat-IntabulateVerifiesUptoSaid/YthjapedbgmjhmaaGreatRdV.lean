/-
  How parts and settings are read; the sizes of their lists.
  Own work. No Go text.
-/
import Derived.Test.YthjapedbgmjhmaaGreatVd
set_option linter.all false
namespace Go.Proofs.YthjapedbgmjhmaaGreat
open Go Go.Am Go.ChangeShapes Go.WideShapes Go.ChangeAt Go.RowKit Go.Deep
set_option maxRecDepth 100000
theorem own : ownKnob Tryz.prog.godebug = none := by kernel_rfl
theorem kids : Kids Tryz.prog (· < Tryz.prog.types.size) := kids_rows (by kernel_rfl) (by kernel_rfl)
theorem full : ∀ t e, t < Tryz.prog.types.size → Tryz.prog.underlying t = some (.slice e) → 0 < Tryz.prog.cellsOf e := slices_full_of Tryz.prog (by kernel_rfl)
theorem rd_int : Rdg Bk Tryz.prog 3 (AV.int .i64) 1 (okI .i64) (fun _ => 1) := Rdg.int .i64 (by kernel_rfl) (by kernel_rfl)
theorem rd_bool : Rdg Bk Tryz.prog 4 AV.bool 1 (fun _ => True) (fun _ => 1) := Rdg.bool (by kernel_rfl) (by kernel_rfl)
theorem rd_ints : Rdg Bk Tryz.prog 24 (SL (AV.int .i64)) 1 (okL (okI .i64)) (lm (fun _ => 1)) := rd_int.slice (by kernel_rfl) (by kernel_rfl)
noncomputable def fld (t : TypeId) (i : Nat) : Field := match Tryz.prog.underlying t with
  | some (.struct fs) => fs.toList.getD i ⟨ "", 0, 0, false, "", "", 0⟩
  | _ => ⟨ "", 0, 0, false, "", "", 0⟩
theorem rd_field {t : TypeId} {i : Nat} {u : TypeId} {α : Type} {e : α → AV} {n : Nat} {ok : α → Prop} {m : α → Nat} (r : Rdg Bk Tryz.prog u e n ok m) (h : (fld t i).type = u) : Rdg Bk Tryz.prog (fld t i).type e n ok m := by rw [h]; exact r
theorem rd_course : Rdg Bk Tryz.prog 103 E_GCourse 3 (fun _ => True) (fun _ => 4) :=
  Rdg.struct (fs := #[fld 103 0, fld 103 1, fld 103 2]) [fld 103 0, fld 103 1, fld 103 2] (RdgF.cons (rd_field rd_int (by kernel_rfl)) (by kernel_rfl) (RdgF.cons (rd_field rd_int (by kernel_rfl)) (by kernel_rfl) (RdgF.cons (rd_field rd_bool (by kernel_rfl)) (by kernel_rfl) RdgF.nil)))
    (by kernel_rfl) rfl (by kernel_rfl) (by decide)
    (fun b => ⟨b.1, b.2.1, b.2.2.1⟩) (fun a => (a.pitch, a.frets, a.octave, ())) (fun b => rfl) (fun a => rfl) (fun b h => trivial) (fun b => rfl)
theorem rd_courses : Rdg Bk Tryz.prog 23 (SL E_GCourse) 1 (okL fun _ => True) (lm (fun _ => 4)) := rd_course.slice (by kernel_rfl) (by kernel_rfl)
def mInst (a : GInstrument) : Nat := lm (fun _ => 4) a.courses + (lm (fun _ => 1) a.steps + 0) + 1
theorem rd_inst : Rdg Bk Tryz.prog 26 E_GInstrument 2 (fun _ => True) mInst :=
  Rdg.struct (fs := #[fld 26 0, fld 26 1]) [fld 26 0, fld 26 1] (RdgF.cons (rd_field rd_courses (by kernel_rfl)) (by kernel_rfl) (RdgF.cons (rd_field rd_ints (by kernel_rfl)) (by kernel_rfl) RdgF.nil))
    (by kernel_rfl) rfl (by kernel_rfl) (by decide)
    (fun b => ⟨b.1, b.2.1⟩) (fun a => (a.courses, a.steps, ())) (fun b => rfl) (fun a => rfl) (fun b h => trivial) (fun b => rfl)
theorem rd_sign : Rdg Bk Tryz.prog 58 E_GSign 3 (fun _ => True) (fun _ => 4) :=
  Rdg.struct (fs := #[fld 58 0, fld 58 1, fld 58 2]) [fld 58 0, fld 58 1, fld 58 2] (RdgF.cons (rd_field rd_int (by kernel_rfl)) (by kernel_rfl) (RdgF.cons (rd_field rd_bool (by kernel_rfl)) (by kernel_rfl) (RdgF.cons (rd_field rd_bool (by kernel_rfl)) (by kernel_rfl) RdgF.nil)))
    (by kernel_rfl) rfl (by kernel_rfl) (by decide)
    (fun b => ⟨b.1, b.2.1, b.2.2.1⟩) (fun a => (a.value, a.dot, a.three, ())) (fun b => rfl) (fun a => rfl) (fun b h => trivial) (fun b => rfl)
theorem rd_stop : Rdg Bk Tryz.prog 63 E_GStop 5 (fun _ => True) (fun _ => 6) :=
  Rdg.struct (fs := #[fld 63 0, fld 63 1, fld 63 2, fld 63 3, fld 63 4]) [fld 63 0, fld 63 1, fld 63 2, fld 63 3, fld 63 4] (RdgF.cons (rd_field rd_int (by kernel_rfl)) (by kernel_rfl) (RdgF.cons (rd_field rd_int (by kernel_rfl)) (by kernel_rfl) (RdgF.cons (rd_field rd_int (by kernel_rfl)) (by kernel_rfl) (RdgF.cons (rd_field rd_int (by kernel_rfl)) (by kernel_rfl) (RdgF.cons (rd_field rd_int (by kernel_rfl)) (by kernel_rfl) RdgF.nil)))))
    (by kernel_rfl) rfl (by kernel_rfl) (by decide)
    (fun b => ⟨b.1, b.2.1, b.2.2.1, b.2.2.2.1, b.2.2.2.2.1⟩) (fun a => (a.course, a.fret, a.right, a.grace, a.hold, ())) (fun b => rfl) (fun a => rfl) (fun b h => trivial) (fun b => rfl)
theorem rd_stops : Rdg Bk Tryz.prog 59 (SL E_GStop) 1 (okL fun _ => True) (lm (fun _ => 6)) := rd_stop.slice (by kernel_rfl) (by kernel_rfl)
def mEvent (e : GEvent) : Nat := 1 + (4 + (1 + (lm (fun _ => 6) e.stops + 0))) + 1
theorem rd_event : Rdg Bk Tryz.prog 61 E_GEvent 6 (fun _ => True) mEvent :=
  Rdg.struct (fs := #[fld 61 0, fld 61 1, fld 61 2, fld 61 3]) [fld 61 0, fld 61 1, fld 61 2, fld 61 3] (RdgF.cons (rd_field rd_bool (by kernel_rfl)) (by kernel_rfl) (RdgF.cons (rd_field rd_sign (by kernel_rfl)) (by kernel_rfl) (RdgF.cons (rd_field rd_bool (by kernel_rfl)) (by kernel_rfl) (RdgF.cons (rd_field rd_stops (by kernel_rfl)) (by kernel_rfl) RdgF.nil))))
    (by kernel_rfl) rfl (by kernel_rfl) (by decide)
    (fun b => ⟨b.1, b.2.1, b.2.2.1, b.2.2.2.1⟩) (fun a => (a.bar, a.sign, a.tie, a.stops, ())) (fun b => rfl) (fun a => rfl) (fun b h => trivial) (fun b => rfl)
theorem rd_events : Rdg Bk Tryz.prog 27 (SL E_GEvent) 1 (okL fun _ => True) (lm mEvent) := rd_event.slice (by kernel_rfl) (by kernel_rfl)
def mPiece (p : GPiece) : Nat := mInst p.instrument + (lm mEvent p.events + 0) + 1
theorem rd_piece : Rdg Bk Tryz.prog 29 E_GPiece 3 (fun _ => True) mPiece :=
  Rdg.struct (fs := #[fld 29 0, fld 29 1]) [fld 29 0, fld 29 1] (RdgF.cons (rd_field rd_inst (by kernel_rfl)) (by kernel_rfl) (RdgF.cons (rd_field rd_events (by kernel_rfl)) (by kernel_rfl) RdgF.nil))
    (by kernel_rfl) rfl (by kernel_rfl) (by decide)
    (fun b => ⟨b.1, b.2.1⟩) (fun a => (a.instrument, a.events, ())) (fun b => rfl) (fun a => rfl) (fun b h => trivial) (fun b => rfl)
theorem rd_tone : Rdg Bk Tryz.prog 47 E_GTone 3 (fun _ => True) (fun _ => 4) :=
  Rdg.struct (fs := #[fld 47 0, fld 47 1, fld 47 2]) [fld 47 0, fld 47 1, fld 47 2] (RdgF.cons (rd_field rd_int (by kernel_rfl)) (by kernel_rfl) (RdgF.cons (rd_field rd_int (by kernel_rfl)) (by kernel_rfl) (RdgF.cons (rd_field rd_int (by kernel_rfl)) (by kernel_rfl) RdgF.nil)))
    (by kernel_rfl) rfl (by kernel_rfl) (by decide)
    (fun b => ⟨b.1, b.2.1, b.2.2.1⟩) (fun a => (a.pitch, a.from_, a.to_, ())) (fun b => rfl) (fun a => rfl) (fun b h => trivial) (fun b => rfl)
theorem rd_tones : Rdg Bk Tryz.prog 44 (SL E_GTone) 1 (okL (fun _ => True)) (lm (fun _ => 4)) := rd_tone.slice (by kernel_rfl) (by kernel_rfl)
theorem rd_parts : Rdg Bk Tryz.prog 22 (SL (SL E_GTone)) 1 (okL (okL fun _ => True)) (lm (lm (fun _ => 4))) := rd_tones.slice (by kernel_rfl) (by kernel_rfl)
theorem rd_place : Rdg Bk Tryz.prog 79 E_GPlace 2 (fun _ => True) (fun _ => 3) :=
  Rdg.struct (fs := #[fld 79 0, fld 79 1]) [fld 79 0, fld 79 1] (RdgF.cons (rd_field rd_int (by kernel_rfl)) (by kernel_rfl) (RdgF.cons (rd_field rd_int (by kernel_rfl)) (by kernel_rfl) RdgF.nil))
    (by kernel_rfl) rfl (by kernel_rfl) (by decide)
    (fun b => ⟨b.1, b.2.1⟩) (fun a => (a.course, a.fret, ())) (fun b => rfl) (fun a => rfl) (fun b h => trivial) (fun b => rfl)
theorem rd_places : Rdg Bk Tryz.prog 66 (SL E_GPlace) 1 (okL (fun _ => True)) (lm (fun _ => 3)) := rd_place.slice (by kernel_rfl) (by kernel_rfl)
theorem rd_where : Rdg Bk Tryz.prog 30 (SL (SL E_GPlace)) 1 (okL (okL fun _ => True)) (lm (lm (fun _ => 3))) := rd_places.slice (by kernel_rfl) (by kernel_rfl)
theorem rd_loss : Rdg Bk Tryz.prog 56 E_GLoss 4 (fun _ => True) (fun _ => 5) :=
  Rdg.struct (fs := #[fld 56 0, fld 56 1, fld 56 2, fld 56 3]) [fld 56 0, fld 56 1, fld 56 2, fld 56 3] (RdgF.cons (rd_field rd_int (by kernel_rfl)) (by kernel_rfl) (RdgF.cons (rd_field rd_int (by kernel_rfl)) (by kernel_rfl) (RdgF.cons (rd_field rd_int (by kernel_rfl)) (by kernel_rfl) (RdgF.cons (rd_field rd_int (by kernel_rfl)) (by kernel_rfl) RdgF.nil))))
    (by kernel_rfl) rfl (by kernel_rfl) (by decide)
    (fun b => ⟨b.1, b.2.1, b.2.2.1, b.2.2.2.1⟩) (fun a => (a.part, a.tone, a.kind, a.time, ())) (fun b => rfl) (fun a => rfl) (fun b h => trivial) (fun b => rfl)
theorem rd_losses : Rdg Bk Tryz.prog 31 (SL E_GLoss) 1 (okL (fun _ => True)) (lm (fun _ => 5)) := rd_loss.slice (by kernel_rfl) (by kernel_rfl)
def mSet (s : GSetting) : Nat := mPiece s.piece + (1 + (lm (lm (fun _ => 3)) s.where_ + (lm (fun _ => 5) s.losses + 0))) + 1
theorem rd_set : Rdg Bk Tryz.prog 33 E_GSetting 6 (fun _ => True) mSet :=
  Rdg.struct (fs := #[fld 33 0, fld 33 1, fld 33 2, fld 33 3]) [fld 33 0, fld 33 1, fld 33 2, fld 33 3] (RdgF.cons (rd_field rd_piece (by kernel_rfl)) (by kernel_rfl) (RdgF.cons (rd_field rd_int (by kernel_rfl)) (by kernel_rfl) (RdgF.cons (rd_field rd_where (by kernel_rfl)) (by kernel_rfl) (RdgF.cons (rd_field rd_losses (by kernel_rfl)) (by kernel_rfl) RdgF.nil))))
    (by kernel_rfl) rfl (by kernel_rfl) (by decide)
    (fun b => ⟨b.1, b.2.1, b.2.2.1, b.2.2.2.1⟩) (fun a => (a.piece, a.shift, a.where_, a.losses, ())) (fun b => rfl) (fun a => rfl) (fun b h => trivial) (fun b => rfl)
theorem size_ofP {p : GPiece} (h : mPiece p ≤ 1048576) : Small p.events ∧ ∀ e ∈ p.events, Small e.stops := by
  unfold mPiece at h
  have h3 := lm_len rd_event.mpos p.events
  have h2' : mInst p.instrument + (lm mEvent p.events + 0) + 1 ≤ 1048576 := h
  refine ⟨by simp only [Small]; omega, fun e he => ?_⟩
  have h4 := lm_mem (m := mEvent) he
  have h4' : 1 + (4 + (1 + (lm (fun _ => 6) e.stops + 0))) + 1 ≤ lm mEvent p.events := h4
  have h5 := lm_len rd_stop.mpos e.stops
  simp only [Small]; omega
theorem size_ofS {s : GSetting} (h : mSet s ≤ 1048576) : (Small s.piece.events ∧ ∀ e ∈ s.piece.events, Small e.stops) ∧ Small s.losses := by
  unfold mSet at h
  refine ⟨size_ofP (by omega), ?_⟩
  have h3 := lm_len rd_loss.mpos s.losses
  simp only [Small]; omega
end Go.Proofs.YthjapedbgmjhmaaGreat
