/-
 The notes of a piece: the reference's. Plain law.
 Own work. No Go text.
-/
import Derived.Test.YtodkhgjhodmeoaaGreatCd
import Derived.Test.YtodkhgjhodmeoaaGreatNb
import Derived.Test.YtodkhgjhodmeoaaGreatSs
import Derived.Test.YtodkhgjhodmeoaaGreatV54
set_option linter.all false
namespace Go.Proofs.YtodkhgjhodmeoaaGreat
open Go Go.Am
theorem need_one {α : Type} {p : Prop} [Decidable p] {x : Option α} (h : p) : need p x = x := if_pos h
theorem valid_of {p : GPiece} (hp : SmallP p) (h : pieceS p = 0) : ValidP p := by
 obtain ⟨e,h1,h2⟩ := check_ok p hp ⟨_,icheck_eq _,fun h => (instS_ok h).1⟩
 rw [prog_check p hp] at h1
 injection h1 with h1
 obtain ⟨a,b,c,d⟩ := h2 (by rw [← h1]; exact h)
 exact ⟨(pieceS_ok h).1,c,d⟩
theorem notes_prog (p : GPiece) (hp : SmallP p) (h : pieceS p = 0) : f52 p = some (notesN p,0) := by
 obtain ⟨r,h1,h2⟩ := notes_exact p (valid_of hp h)
 have ho : onsetS p = (onsS p,0) := by unfold onsetS; rw [if_pos h]
 have d0 : decide ((0 : Int) ≠ 0) = false := rfl
 unfold f52 f114
 rw [prog_onsets p hp,ho]
 simp only [Option.bind_some,d0,cond_false,h1,h2]
end Go.Proofs.YtodkhgjhodmeoaaGreat
