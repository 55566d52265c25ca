/-
 ConsortScores: the law's function gives true. Plain law.
 Own work. No Go text.
-/
import Derived.Test.YtodkhgjhodmeoaaGreatSu
import Derived.Test.YtodkhgjhodmeoaaGreatCg
set_option linter.all false
namespace Go.Proofs.YtodkhgjhodmeoaaGreat
open Go Go.Am
theorem eq_cue (x : GCue) : eq_GCue x x = true := by simp [eq_GCue]
theorem eq_tone (x : GTone) : eq_GTone x x = true := by simp [eq_GTone]
theorem same_tones (l : List GTone) (h : Small l) : f39 l l = some true := by
 unfold f39
 have d0 : decide ((l.length : Int) ≠ (l.length : Int)) = false := by simp
 rw [d0,cond_false,loop_none l h (fun i y hy => by simp only [dltLen hy,cond_true,ixNat hy,Option.bind_some,eq_tone,Bool.not_true,cond_false]) (by simp)]
 rfl
theorem f5_eq (c : GConsort) (hs : SizeC c.pieces) : f5 c = some true := by
 obtain ⟨r,r1,r2,r3⟩ := score_eq c hs
 obtain ⟨q,q1,q2,q3⟩ := sounds_eq c hs
 unfold f5
 rw [f9_eq c.pieces hs.1]
 simp only [Option.bind_some,f10]
 cases bigS c.pieces with
 | true => rfl
 | false =>
  have d0 : decide (r.2 ≠ r.2) = false := by simp
  have d1 : decide ((r.1.length : Int) ≠ (r.1.length : Int)) = false := by simp
  simp only [cond_false,r1,r2,Option.bind_some,d0,d1]
  rw [loop_none r.1 r3 (fun i y hy => by simp only [dltLen hy,cond_true,ixNat hy,Option.bind_some,eq_cue,Bool.not_true,cond_false]) (by simp)]
  simp only [Option.bind_some,Sum.elim_inl,q1,q2,decide_true,cond_true,same_tones q.1 q3]
end Go.Proofs.YtodkhgjhodmeoaaGreat
