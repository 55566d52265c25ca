/-
 slices.Sort and slices.Compact at lists of ints: from the shelf's contracts.
 Own work. No Go text.
-/
import Derived.Test.YtjjendjmakhfaaaGreatSe
import Derived.Shelf.Sort.Plain
import Derived.Shelf.Slices.CompactI
set_option linter.all false
namespace Go.Am
open Go.RowKit
end Go.Am
