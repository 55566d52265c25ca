/- The logic AM, part 26: the other operations that are told; regions. -/
import Derived.Test.YtpbahncblggodaaGreatAmD
set_option linter.all false
namespace Go.Am
open Go.RowKit
def EZ(P:Program)(t:TypeId)(x y:AV)(s:St):Option (AV×St):=match y with
 |.mc id bL len _=>A0 P t x id bL len s
 |y=>match dU P t,fG y s with
  |some e,some new=>if kE P e y s then w6 P t x new s else none
  |_,_=>none
def J3:DI->Bool
 |⟨.ig _ _,some n,_⟩=>fN n.op
 |_=>true
section
variable {P:Program} {N:Nat} {ρ:Option Nat} {Q:Exit->Env->St->Prop} {bI E2:Env} {s S2:St} {c:Code} {obs:List Prop}
end
end Go.Am
