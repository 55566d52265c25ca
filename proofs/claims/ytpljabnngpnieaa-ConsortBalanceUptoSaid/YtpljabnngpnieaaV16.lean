/-
 Functions of the program as Lean functions,and the walks. Written by a program of ours.
-/
import Derived.Test.YtpljabnngpnieaaV32
import Derived.Test.YtpljabnngpnieaaV13
namespace Go.Proofs.Ytpljabnngpnieaa
open Go Go.Am
set_option maxRecDepth 100000
set_option linter.all false
def f16_1 (a0:GCPlayer):Option (List GFrame × Bool × Int × Int × Bool × List GCDesk × Int × List GCLive × List GTake):=(loopN (σ:=(Int × Int × Bool × List GCDesk × Int × List GCLive × List GTake × List GFrame × Int)) (τ:=((Int × Int × Bool × List GCDesk × Int × List GCLive × List GTake) ⊕ (List GFrame × Bool × Int × Int × Bool × List GCDesk × Int × List GCLive × List GTake))) (fun ((l1_h0_0,l1_h0_1,l1_h0_3,l1_h0_4,l1_h0_7,l1_h0_8,l1_h0_10,l1_4,l1_7):(Int × Int × Bool × List GCDesk × Int × List GCLive × List GTake × List GFrame × Int))=>bif (decide (l1_7 < 20000)) then ((f13_1 (⟨(⟨l1_h0_0⟩:GCClock),l1_h0_1,a0.end_,l1_h0_3,l1_h0_4,a0.from_,a0.to_,l1_h0_7,(⟨l1_h0_8⟩:GCShelf_live),l1_h0_10⟩:GCPlayer)).bind fun r2=>bif (decide (r2.2.1 = 92)) then (some (.inr (.inr (l1_4,true,r2.2.2.1,r2.2.2.2.1,r2.2.2.2.2.1,r2.2.2.2.2.2.1,r2.2.2.2.2.2.2.1,r2.2.2.2.2.2.2.2.1,r2.2.2.2.2.2.2.2.2)))) else (bif (decide (r2.2.1 ≠ 0)) then (some (.inr (.inr (([]:List GFrame),false,r2.2.2.1,r2.2.2.2.1,r2.2.2.2.2.1,r2.2.2.2.2.2.1,r2.2.2.2.2.2.2.1,r2.2.2.2.2.2.2.2.1,r2.2.2.2.2.2.2.2.2)))) else (need (l1_4.length + 1 ≤ maxElems) <| some (.inl (r2.2.2.1,r2.2.2.2.1,r2.2.2.2.2.1,r2.2.2.2.2.2.1,r2.2.2.2.2.2.2.1,r2.2.2.2.2.2.2.2.1,r2.2.2.2.2.2.2.2.2,(l1_4 ++ [(⟨r2.1.time,r2.1.begin,r2.1.end_⟩:GFrame)]),(wr (l1_7 + 1))))))) else (some (.inr (.inl (l1_h0_0,l1_h0_1,l1_h0_3,l1_h0_4,l1_h0_7,l1_h0_8,l1_h0_10))))) FUEL (a0.clock.ticks,a0.now,a0.waiting,a0.desks,a0.times,a0.sounding.l,a0.takes,([]:List GFrame),0)).bind (Sum.elim (fun ((l1x_h0_0,l1x_h0_1,l1x_h0_3,l1x_h0_4,l1x_h0_7,l1x_h0_8,l1x_h0_10):(Int × Int × Bool × List GCDesk × Int × List GCLive × List GTake))=>some (([]:List GFrame),false,l1x_h0_0,l1x_h0_1,l1x_h0_3,l1x_h0_4,l1x_h0_7,l1x_h0_8,l1x_h0_10)) some)
end Go.Proofs.Ytpljabnngpnieaa
