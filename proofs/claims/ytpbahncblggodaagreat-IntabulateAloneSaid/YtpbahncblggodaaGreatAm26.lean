/-
  The logic AM, part 26: the other operations that are told; regions.
  Own work. No Go text.
-/
import Derived.Test.YtpbahncblggodaaGreatAmD
set_option linter.all false
namespace Go.Am
open Go.RowKit
def aCopyB(P:Program)(t:TypeId)(x y:AV)(s:St):Option (AV×St):=match y with
 |.mc id start len _=>aCopyM P t x id start len s
 |y=>match elemT P t,elemsOf y s with
  |some e,some new=>if fitsV P e y s then aCopy P t x new s else none
  |_,_=>none
structure Told where
 i:Nat
 op:Op
 e:Env
 v:AV
 h:Hint
def lightD:DI->Bool
 |⟨.light _ _,some n,_⟩=>isLight n.op
 |_=>true
section
variable {P:Program} {N:Nat} {ρ:Option Nat} {Q:Exit->Env->St->Prop} {env E2:Env} {s S2:St} {c:Code} {obs:List Prop}
end
end Go.Am
