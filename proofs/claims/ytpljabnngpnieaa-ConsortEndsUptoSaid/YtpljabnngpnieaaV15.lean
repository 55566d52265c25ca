/-
 Functions of the program as Lean functions,and the walks. Written by a program of ours.
-/
import Derived.Test.YtpljabnngpnieaaV32
import Derived.Test.YtpljabnngpnieaaV13
namespace Go.Proofs.Ytpljabnngpnieaa
open Go Go.Am
set_option maxRecDepth 100000
set_option linter.all false
def f40 (a0 : Int) (a1 : Int) (a2 : Int) : Option Bool := ((bif (decide (a1 ≤ a0)) then (some (decide (a0 ≤ a2))) else (some false)) : Option Bool).bind fun (j1_6 : Bool) => some j1_6
def f15_1 (a0 : GCPlayer) (a1 : Int) : Option (GFrame × Int × Int × Bool × List GCDesk × List GCLive × List GTake) := (f40 a1 0 a0.end_).bind fun r1 => bif (!r1) then (some ((⟨0,([] : List GVoice),([] : List GVoice)⟩ : GFrame),1,a0.now,a0.waiting,a0.desks,a0.sounding.l,a0.takes)) else ((f35 a0).bind fun r3 => (f37 (⟨a0.clock,a0.now,a0.end_,a0.waiting,a0.desks,a0.from_,a0.to_,a0.times,(⟨r3.2.1⟩ : GCShelf_live),r3.2.2⟩ : GCPlayer) a1).bind fun r4 => some ((⟨a1,([] : List GVoice),r3.1⟩ : GFrame),0,a1,true,r4,r3.2.1,r3.2.2))
end Go.Proofs.Ytpljabnngpnieaa
