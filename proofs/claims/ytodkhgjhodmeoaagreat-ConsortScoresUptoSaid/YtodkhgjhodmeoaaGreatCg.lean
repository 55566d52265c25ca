/-
 Plain laws of ConsortChecks,part g: the copies; the law of Pad; the whole law.
 Own work. No Go text.
-/
import Derived.Test.YtodkhgjhodmeoaaGreatCf
import Derived.Test.YtodkhgjhodmeoaaGreatV4
set_option linter.all false
namespace Go.Proofs.YtodkhgjhodmeoaaGreat
open Go Go.Am
structure SmallQ (p : GPiece) : Prop where
 q : SmallP p
 c : Small p.instrument.courses
 s : Small p.instrument.steps
def bigS (l : List GPiece) : Bool := l.any (fun p => decide (60 < p.events.length) && decide (p.events.length ≤ 400)) || decide (8 < l.length)
theorem f9_eq (l : List GPiece) (hs : Small l) : f9 l = some (bigS l) := by
 unfold f9 bigS
 rw [loop_find l (fun p => decide (60 < p.events.length) && decide (p.events.length ≤ 400)) (fun _ _ => true) hs]
 ·have e8 : decide (8 < (l.length : Int)) = decide (8 < l.length) := dltN 8 _
  simp only [Option.bind_some,findS_any,e8]
  cases l.any _ <;> rfl
 ·intro i p hp
  have e1 : decide (60 < (p.events.length : Int)) = decide (60 < p.events.length) := dltN 60 _
  have e2 : decide ((p.events.length : Int) ≤ 400) = decide (p.events.length ≤ 400) := by
   by_cases h : p.events.length ≤ 400
   ·have : (p.events.length : Int) ≤ 400 := by omega
    simp [h,this]
   ·have : ¬ (p.events.length : Int) ≤ 400 := by omega
    simp [h,this]
  simp only [dltLen hp,cond_true,ixNat hp,Option.bind_some,andP,e1,e2]
  cases (decide (60 < p.events.length) && decide (p.events.length ≤ 400)) <;> rfl
 ·simp
end Go.Proofs.YtodkhgjhodmeoaaGreat
