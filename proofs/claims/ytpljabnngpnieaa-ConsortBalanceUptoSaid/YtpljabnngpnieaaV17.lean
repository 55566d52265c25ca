/-
 Functions of the program as Lean functions,and the walks. Written by a program of ours.
-/
import Derived.Test.YtpljabnngpnieaaV32
namespace Go.Proofs.Ytpljabnngpnieaa
open Go Go.Am
set_option maxRecDepth 100000
set_option linter.all false
def f26 (a0:List GVoice) (a1:List GVoice):Option Bool:=bif (decide ((a0.length:Int) ≠ (a1.length:Int))) then (some false) else ((loopN (σ:=Int) (τ:=(Unit ⊕ Bool)) (fun (l1_5:Int)=>bif (decide (l1_5 < (a0.length:Int))) then ((ix a0 l1_5).bind fun y3=>(ix a1 l1_5).bind fun y4=>bif (!(eq_GVoice y3 y4)) then (some (.inr (.inr false))) else (some (.inl (wr (l1_5 + 1))))) else (some (.inr (.inl ())))) FUEL 0).bind (Sum.elim (fun (_:Unit)=>some true) some))
def f17 (a0:GFrame) (a1:GFrame):Option Bool:=((bif (decide (a0.time = a1.time)) then ((f26 a0.begin a1.begin).bind fun r2=>bif r2 then ((f26 a0.end_ a1.end_).bind fun r4=>some r4) else (some false)) else (some false)):Option Bool).bind fun (j1_4:Bool)=>some j1_4
end Go.Proofs.Ytpljabnngpnieaa
