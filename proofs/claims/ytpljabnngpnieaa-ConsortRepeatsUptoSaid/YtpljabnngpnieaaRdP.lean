/-
  How the pair [2]int is read.
  Own work. No Go text.
-/
import Derived.Test.YtpljabnngpnieaaRdA
import Derived.Test.YtpljabnngpnieaaP4
set_option linter.all false
namespace Go.Proofs.Ytpljabnngpnieaa
open Go Go.Am Go.ChangeShapes Go.WideShapes Go.ChangeAt Go.RowKit Go.Deep
set_option maxRecDepth 100000
def E_Part (p : Int × Int) : AV := .agg [.i p.1, .i p.2]
theorem rd_part : Rdg Bk Try.prog 44 E_Part 2 (fun _ => True) (fun _ => 3) :=
  Rdg.array (k0 := 2) (e := 3) [⟨ "", 3, 0, false, "", "", 0⟩, ⟨ "", 3, 1, false, "", "", 0⟩] (RdgF.cons (f := ⟨ "", 3, 0, false, "", "", 0⟩) rd_int rfl (RdgF.cons (f := ⟨ "", 3, 1, false, "", "", 0⟩) rd_int rfl RdgF.nil))
    (by kernel_rfl) rfl (fun i f h => by
      match i, h with
      | 0, h => simp at h; subst h; exact ⟨rfl, by simp⟩
      | 1, h => simp at h; subst h; exact ⟨rfl, by rw [show Try.prog.cellsOf 3 = 1 by kernel_rfl]⟩
      | i + 2, h => simp at h) (by kernel_rfl) (by decide)
    (fun b => (b.1, b.2.1)) (fun a => (a.1, a.2, ())) (fun b => rfl) (fun a => rfl) (fun b h => trivial) (fun b => rfl)
end Go.Proofs.Ytpljabnngpnieaa
