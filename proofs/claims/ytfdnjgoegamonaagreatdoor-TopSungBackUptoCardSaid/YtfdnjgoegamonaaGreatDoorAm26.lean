/- The logic AM, part 26: the other operations that are told; regions. -/
import Derived.Test.YtfdnjgoegamonaaGreatDoorAmD
set_option linter.all false
namespace Go.Am
open Go.RowKit
def GS(P:Program)(t:TypeId)(x y:AV)(s:St):Option (AV×St):=match y with
 |.mc id b9 len _=>Cn P t x id b9 len s
 |y=>match eH P t,gh y s with
  |some e,some new=>if lx P e y s then yo P t x new s else none
  |_,_=>none
def Mt:DI->Bool
 |⟨.iQ _ _,some n,_⟩=>gu n.op
 |_=>true
section
variable {P:Program} {N:Nat} {ρ:Option Nat} {Q:Exit->Env->St->Prop} {bX E2:Env} {s S2:St} {c:Code} {obs:List Prop}
end
end Go.Am
