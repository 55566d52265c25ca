/-
 ConsortScores: the law's function gives true. Plain law.
 Own work. No Go text.
-/
import Derived.Test.YtodkhgjhodmeoaaGreatSu
import Derived.Test.YtodkhgjhodmeoaaGreatCg
set_option linter.all false
namespace Go.Proofs.YtodkhgjhodmeoaaGreat
open Go Go.Am
theorem eq_cue (x : GCue) : eq_GCue x x = true := by simp [eq_GCue]
theorem eq_tone (x : GTone) : eq_GTone x x = true := by simp [eq_GTone]
theorem same_tones (l : List GTone) (h : Small l) : f39 l l = some true := by
 unfold f39
 have d0 : decide ((l.length : Int) ≠ (l.length : Int)) = false := by simp
 rw [d0,cond_false,loop_none l h (fun i y hy => by simp only [dltLen hy,cond_true,ixNat hy,Option.bind_some,eq_tone,Bool.not_true,cond_false]) (by simp)]
 rfl
end Go.Proofs.YtodkhgjhodmeoaaGreat
