/-
 Plain laws of the player,part 4: what a step keeps; how many steps there are.
 Own work. No Go text.
-/
import Derived.Test.YtpljabnngpnieaaPb
set_option linter.all false
namespace Go.Proofs.Ytpljabnngpnieaa
open Go Go.Am
def fromsS (ds : List GCDesk) : List Int := ds.flatMap fun d => d.notes.map (·.from_)
structure Keeps (k : Nat) (p : GCPlayer) : Prop where
 now : 0 ≤ p.now ∧ p.now ≤ p.end_ ∧ p.end_ ≤ 1000000
 desks : p.desks.length ≤ 6
 notes : ∀ d ∈ p.desks,d.notes.length ≤ 1000
 times : p.times = 0
 waits : p.waiting = true → p.sounding.l = []
 live : p.waiting = false → p.sounding.l.length ≤ (fromsS p.desks).countP fun x => decide (x ≤ p.now)
 mem : ∀ x ∈ p.sounding.l,∃ d ∈ p.desks,x.note ∈ d.notes
 takes : p.takes.length ≤ 6000 * k
theorem put_mem {l : List GCLive} {x y : GCLive} (h : y ∈ putS l x) : y = x ∨ y ∈ l := by
 unfold putS at h
 rcases List.mem_append.1 h with h | h
 ·exact .inr (List.mem_of_mem_take h)
 ·rcases List.mem_cons.1 h with h | h
  ·exact .inl h
  ·exact .inr (List.mem_of_mem_drop h)
end Go.Proofs.Ytpljabnngpnieaa
