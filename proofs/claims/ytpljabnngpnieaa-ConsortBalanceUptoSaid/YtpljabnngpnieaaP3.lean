/-
 Plain laws of the player,part 6: the statement on Seek.
 Own work. No Go text.
-/
import Derived.Test.YtpljabnngpnieaaPv
import Derived.Test.YtpljabnngpnieaaV3
set_option linter.all false
namespace Go.Proofs.Ytpljabnngpnieaa
open Go Go.Am
theorem rest_ok (a n : Int) (h0 : 0 < n) (h1 : n ≤ 1000000) : ∃ r,f12 a n = some r ∧ 0 ≤ r ∧ r < n := by
 have g1 := Int.tmod_lt_of_pos a h0
 have g2 := Int.lt_tmod_of_pos a h0
 have hw : wr (Int.tmod a n + n) = Int.tmod a n + n := wr64 (by omega) (by omega)
 have hn : n ≠ 0 := by omega
 unfold f12
 simp only [need,if_pos hn,hw]
 exact ⟨_,rfl,Int.tmod_nonneg _ (by omega),Int.tmod_lt_of_pos _ h0⟩
end Go.Proofs.Ytpljabnngpnieaa
