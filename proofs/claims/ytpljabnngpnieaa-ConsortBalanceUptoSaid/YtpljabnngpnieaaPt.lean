/-
 Plain laws of the player,part 9: takes that are looked for among the notes.
 Own work. No Go text.
-/
import Derived.Test.YtpljabnngpnieaaPe
import Derived.Test.YtpljabnngpnieaaV21
set_option linter.all false
namespace Go.Proofs.Ytpljabnngpnieaa
open Go Go.Am
def notesP (p : GPiece) : List GNote := ((f32 p).getD ([],0)).1
end Go.Proofs.Ytpljabnngpnieaa
