/-
 Plain laws,part 3: figures that fit; the statement on tables.
 Own work. No Go text.
-/
import Derived.Test.YtplpfocfcppajaaGreatL1
namespace Go.Proofs.YtplpfocfcppajaaGreat
open Go Go.Am
set_option linter.all false
theorem f18_refl (l : List Int) (hs : Small l) : f18 l l = some true := by
 unfold f18
 have hd : decide ((l.length : Int) ≠ (l.length : Int)) = false := by simp
 rw [hd,cond_false,loop_find l (fun _ => false) (fun _ _ => false) hs]
 ·simp only [Option.bind_some,findS_any]
  have : (l.any fun _ => false) = false := by simp
  rw [this]; rfl
 ·intro i y hy
  simp only [dltLen hy,cond_true,ixNat hy,Option.bind_some]
  have : decide (y ≠ y) = false := by simp
  rw [this]; rfl
 ·simp
end Go.Proofs.YtplpfocfcppajaaGreat
