/- The logic AM, part 26: the other operations that are told; regions. -/
import Derived.Test.YtpbahncblggodaaGreatAmD
set_option linter.all false
namespace Go.Am
open Go.RowKit
def FN(P:Program)(t:TypeId)(x y:AV)(s:St):Option (AV×St):=match y with
 |.mc id bL len _=>BT P t x id bL len s
 |y=>match eh P t,fO y s with
  |some e,some new=>if kT P e y s then xI P t x new s else none
  |_,_=>none
def KN:DI->Bool
 |⟨.iD _ _,some n,_⟩=>fV n.op
 |_=>true
section
variable {P:Program} {N:Nat} {ρ:Option Nat} {Q:Exit->Env->St->Prop} {bI E2:Env} {s S2:St} {c:Code} {obs:List Prop}
end
end Go.Am
