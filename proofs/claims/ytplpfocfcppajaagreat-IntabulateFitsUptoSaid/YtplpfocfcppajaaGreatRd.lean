/-
  How the types of the figures' statements are read; what is asked of the rest of the lift.
  Own work. No Go text.
-/
import Derived.Test.YtplpfocfcppajaaGreatV6
namespace Go.Proofs.YtplpfocfcppajaaGreat
open Go Go.Am Go.ChangeShapes Go.WideShapes Go.ChangeAt Go.RowKit Go.Deep
set_option maxRecDepth 100000
set_option linter.all false
theorem own : ownKnob Tryz.prog.godebug = none := by kernel_rfl
theorem kids : Kids Tryz.prog (· < Tryz.prog.types.size) := kids_rows (by kernel_rfl) (by kernel_rfl)
theorem full : ∀ t e, t < Tryz.prog.types.size → Tryz.prog.underlying t = some (.slice e) → 0 < Tryz.prog.cellsOf e := slices_full_of Tryz.prog (by kernel_rfl)
theorem rd_int : Rdg Bk Tryz.prog 3 (AV.int .i64) 1 (okI .i64) (fun _ => 1) := Rdg.int .i64 (by kernel_rfl) (by kernel_rfl)
theorem rd_ints : Rdg Bk Tryz.prog 24 (SL (AV.int .i64)) 1 (okL (okI .i64)) (lm (fun _ => 1)) := rd_int.slice (by kernel_rfl) (by kernel_rfl)
noncomputable def fld (t : TypeId) (i : Nat) : Field := match Tryz.prog.underlying t with
  | some (.struct fs) => fs.toList.getD i ⟨ "", 0, 0, false, "", "", 0⟩
  | _ => ⟨ "", 0, 0, false, "", "", 0⟩
theorem rd_field {t : TypeId} {i : Nat} {u : TypeId} {α : Type} {e : α → AV} {n : Nat} {ok : α → Prop} {m : α → Nat} (r : Rdg Bk Tryz.prog u e n ok m) (h : (fld t i).type = u) : Rdg Bk Tryz.prog (fld t i).type e n ok m := by rw [h]; exact r
def okTone (t : GTone) : Prop := okI .i64 t.pitch ∧ okI .i64 t.from_ ∧ okI .i64 t.to_
theorem rd_tone : Rdg Bk Tryz.prog 53 E_GTone 3 okTone (fun _ => 4) :=
  Rdg.struct (fs := #[fld 53 0, fld 53 1, fld 53 2]) [fld 53 0, fld 53 1, fld 53 2] (RdgF.cons (rd_field rd_int (by kernel_rfl)) (by kernel_rfl) (RdgF.cons (rd_field rd_int (by kernel_rfl)) (by kernel_rfl) (RdgF.cons (rd_field rd_int (by kernel_rfl)) (by kernel_rfl) RdgF.nil)))
    (by kernel_rfl) rfl (by kernel_rfl) (by decide)
    (fun b => ⟨b.1, b.2.1, b.2.2.1⟩) (fun a => (a.pitch, a.from_, a.to_, ())) (fun b => rfl) (fun a => rfl) (fun b h => ⟨h.1, h.2.1, h.2.2.1⟩) (fun b => rfl)
theorem rd_tones : Rdg Bk Tryz.prog 43 (SL E_GTone) 1 (okL okTone) (lm (fun _ => 4)) := rd_tone.slice (by kernel_rfl) (by kernel_rfl)
end Go.Proofs.YtplpfocfcppajaaGreat
