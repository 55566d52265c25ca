/- The logic AM, I: a table of nil slices, seen as a family of lists. -/
import Derived.Test.YtgpciecmgoppiaaGreatAmH
set_option linter.all false
namespace Go.Am
open Go.RowKit
section
variable {B:iU} {c m n d e:Nat} {s:dH B.S} {ids:List Nat} {y0:B.S c}
end
section
variable {B:iU} {P:Program} {N:Nat} {ρ:Option Nat} {Q:Exit->Env->St->Prop} {M:TM B.S}
end
end Go.Am
