/-
 Functions of the program as Lean functions,and the walks. Written by a program of ours.
-/
import Derived.Test.YtpljabnngpnieaaV32
namespace Go.Proofs.Ytpljabnngpnieaa
open Go Go.Am
set_option maxRecDepth 100000
set_option linter.all false
noncomputable def c12 (k:Nat):Code:=nthC (subs (Try.f12.body.getD .skip)) k
def f14 (a0:GConsort):Option Int:=bif (decide ((a0.pieces.length:Int) = 0)) then (some 0) else ((ix a0.pieces 0).bind fun y2=>(f39 y2).bind fun r3=>bif (decide ((r3.1.length:Int) = 0)) then (some 0) else ((ix r3.1 (wr ((r3.1.length:Int) - 1))).bind fun y5=>some y5))
def f12 (a0:Int) (a1:Int):Option Int:=need (a1 ≠ 0) <| some (Int.tmod (wr ((Int.tmod a0 a1) + a1)) a1)
theorem f12_ok (a0:Int) (a1:Int) (r:Int) (h:f12 a0 a1 = some r):APure Try.prog 12 [.i a0,.i a1] (.i r):=by
 refine apure (clK rfl (clK rfl clZ)) rfl ?_
 refine run_f 12 [.tmp 4] (c12 0) (zipE [0,1] [.i a0,.i a1]) (by kernel_rfl) (by kernel_rfl) (by kernel_rfl) rfl ?_
 unfold f12 at h
 refine run1z (c12 2) [] [0,1] [.i a0,.i a1] ⟨[],0⟩ _ (by kernel_rfl) cj0 ?_
 obtain ⟨hn1,h⟩:=needE h
 refine run1z (c12 4) [{},{},{ k:=1 },{},{},{},{ k:=1 }] [4] [.i (Int.tmod (wr ((Int.tmod a0 a1) + a1)) a1)] ⟨[],0⟩ _ (by kernel_rfl) (cjC (hn1) (cj1 (hn1))) ?_
 refine run_t (by kernel_rfl) ?_
 replace h:=Option.some.inj h; subst h
 exact fin_r (by kernel_rfl) rfl
end Go.Proofs.Ytpljabnngpnieaa
