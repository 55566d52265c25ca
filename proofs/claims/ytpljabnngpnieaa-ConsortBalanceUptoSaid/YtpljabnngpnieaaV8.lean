/-
 Functions of the program as Lean functions,and the walks. Written by a program of ours.
-/
import Derived.Test.YtpljabnngpnieaaV32
namespace Go.Proofs.Ytpljabnngpnieaa
open Go Go.Am
set_option maxRecDepth 100000
set_option linter.all false
def f27 :Option (Int × Int):=some (0,5)
def f13 :Option (GFrame × Int):=(f27).bind fun r1=>bif (decide (r1.2 ≠ 0)) then (some ((⟨0,([]:List GVoice),([]:List GVoice)⟩:GFrame),r1.2)) else (none)
def f16 :Option (((List GFrame)) × Bool):=(loopN (σ:=(List GFrame × Int)) (τ:=(Unit ⊕ (((List GFrame)) × Bool))) (fun ((l1_4,l1_7):(List GFrame × Int))=>bif (decide (l1_7 < 20000)) then ((f13).bind fun r2=>bif (decide (r2.2 = 92)) then (some (.inr (.inr (l1_4,true)))) else (bif (decide (r2.2 ≠ 0)) then (some (.inr (.inr (([]:List GFrame),false)))) else (need (l1_4.length + 1 ≤ maxElems) <| some (.inl ((l1_4 ++ [r2.1]),(wr (l1_7 + 1))))))) else (some (.inr (.inl ())))) FUEL (([]:List GFrame),0)).bind (Sum.elim (fun (_:Unit)=>some (([]:List GFrame),false)) some)
def f22 :Option Bool:=some false
def f23 :Option ((List GVoice)):=some ([]:List GVoice)
def f19 :Option Int:=some 0
def f24 :Option Int:=some 0
def f20 :Option ((List GTake)):=some ([]:List GTake)
def f19_1 (a0:GCPlayer):Option Unit:=some ()
def f24_1 (a0:GCPlayer):Option Unit:=some ()
def f25 (a1:Int) (a2:Bool):Option (GFrame × Int):=some ((⟨0,([]:List GVoice),([]:List GVoice)⟩:GFrame),5)
def f15 (a1:Int):Option (GFrame × Int):=some ((⟨0,([]:List GVoice),([]:List GVoice)⟩:GFrame),5)
def f18 (a1:Int) (a2:Int) (a3:Int):Option Int:=some 5
end Go.Proofs.Ytpljabnngpnieaa
