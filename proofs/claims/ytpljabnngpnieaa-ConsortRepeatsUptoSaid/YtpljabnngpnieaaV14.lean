/-
 Functions of the program as Lean functions,and the walks. Written by a program of ours.
-/
import Derived.Test.YtpljabnngpnieaaV32
namespace Go.Proofs.Ytpljabnngpnieaa
open Go Go.Am
set_option maxRecDepth 100000
set_option linter.all false
noncomputable def c14 (k:Nat):Code:=nthC (subs (Try.f14.body.getD .skip)) k
noncomputable def c12 (k:Nat):Code:=nthC (subs (Try.f12.body.getD .skip)) k
def f14 (a0:GConsort):Option Int:=bif (decide ((a0.pieces.length:Int) = 0)) then (some 0) else ((ix a0.pieces 0).bind fun y2=>(f39 y2).bind fun r3=>bif (decide ((r3.1.length:Int) = 0)) then (some 0) else ((ix r3.1 (wr ((r3.1.length:Int) - 1))).bind fun y5=>some y5))
theorem f14_ok (a0:GConsort) (r:Int) (h:f14 a0 = some r):APure Try.prog 14 [E_GConsort a0] (.i r):=by
 refine apure (clK (cl_GConsort a0) clZ) rfl ?_
 refine run_f 26 [.tmp 2] (c14 0) (zipE [0] [E_GConsort a0]) (by kernel_rfl) (by kernel_rfl) (by kernel_rfl) rfl ?_
 unfold f14 at h
 let b_0:Blk:=.cells 1 [E_GConsort a0]
 refine run1z (c14 2) [] [1] [.mp 0 0 0] ⟨[(0,b_0)],1⟩ _ (by kernel_rfl) cj0 ?_
 refine run_s (c14 3) (c14 10) (by kernel_rfl) ?_
 refine run1z (c14 5) [{},{},{ k:=1,n:=a0.pieces.length }] [1,8] [.mp 0 0 0,.bool (decide ((a0.pieces.length:Int) = 0))] ⟨[(0,b_0)],1⟩ _ (by kernel_rfl) (cj1 (mapLen a0.pieces E_GPiece)) ?_
 rcases iteE h with ⟨hc1,h⟩ | ⟨hc1,h⟩
 ·refine run_cT 8 (c14 6) (c14 9) (decide ((a0.pieces.length:Int) = 0)) hc1 (by kernel_rfl) (by kernel_rfl) ?_
  refine run1z (c14 8) [] [2] [.i 0] ⟨[],1⟩ _ (by kernel_rfl) cj0 ?_
  refine run_t (by kernel_rfl) ?_
  refine thenR ?_
  replace h:=Option.some.inj h; subst h
  exact fin_r (by kernel_rfl) rfl
 ·refine run_cF 8 (c14 6) (c14 9) (decide ((a0.pieces.length:Int) = 0)) hc1 (by kernel_rfl) (by kernel_rfl) ?_
  refine run_k (by kernel_rfl) ?_
  refine thenN ?_
  obtain ⟨y2,hy2,h⟩:=bindE h
  obtain ⟨r3,hr3,h⟩:=bindE h
  let v_0:AV:=.sl false (r3.1.map AV.i)
  refine run1z (c14 12) [{},{},{ k:=1,x:=E_GPiece y2 },{},{ c:=some (.tup [v_0,.i r3.2],⟨[(0,b_0)],1⟩) }] [3] [v_0] ⟨[],1⟩ _ (by kernel_rfl) (cjC ((ixE hy2).1) (cjC (mapGet E_GPiece (ixE hy2).2) (cj1 (f39_ok y2 _ hr3 ⟨[(0,b_0)],1⟩)))) ?_
  refine run_s (c14 13) (c14 20) (by kernel_rfl) ?_
  refine run1z (c14 15) [{},{ k:=1,n:=r3.1.length }] [3,19] [v_0,.bool (decide ((r3.1.length:Int) = 0))] ⟨[],1⟩ _ (by kernel_rfl) (cj1 (mapLen r3.1 AV.i)) ?_
  rcases iteE h with ⟨hc4,h⟩ | ⟨hc4,h⟩
  ·refine run_cT 19 (c14 16) (c14 19) (decide ((r3.1.length:Int) = 0)) hc4 (by kernel_rfl) (by kernel_rfl) ?_
   refine run1z (c14 18) [] [2] [.i 0] ⟨[],1⟩ _ (by kernel_rfl) cj0 ?_
   refine run_t (by kernel_rfl) ?_
   refine thenR ?_
   replace h:=Option.some.inj h; subst h
   exact fin_r (by kernel_rfl) rfl
  ·refine run_cF 19 (c14 16) (c14 19) (decide ((r3.1.length:Int) = 0)) hc4 (by kernel_rfl) (by kernel_rfl) ?_
   refine run_k (by kernel_rfl) ?_
   refine thenN ?_
   obtain ⟨y5,hy5,h⟩:=bindE h
   refine run1z (c14 22) [{},{},{ k:=1,n:=r3.1.length },{},{ k:=1,x:=AV.i y5 }] [2] [.i y5] ⟨[],1⟩ _ (by kernel_rfl) (cjC (mapLen r3.1 AV.i) (cjC ((ixE hy5).1) (cj1 (mapGet AV.i (ixE hy5).2)))) ?_
   refine run_t (by kernel_rfl) ?_
   replace h:=Option.some.inj h; subst h
   exact fin_r (by kernel_rfl) rfl
def f12 (a0:Int) (a1:Int):Option Int:=need (a1 ≠ 0) <| some (Int.tmod (wr ((Int.tmod a0 a1) + a1)) a1)
theorem f12_ok (a0:Int) (a1:Int) (r:Int) (h:f12 a0 a1 = some r):APure Try.prog 12 [.i a0,.i a1] (.i r):=by
 refine apure (clK rfl (clK rfl clZ)) rfl ?_
 refine run_f 12 [.tmp 4] (c12 0) (zipE [0,1] [.i a0,.i a1]) (by kernel_rfl) (by kernel_rfl) (by kernel_rfl) rfl ?_
 unfold f12 at h
 refine run1z (c12 2) [] [0,1] [.i a0,.i a1] ⟨[],0⟩ _ (by kernel_rfl) cj0 ?_
 obtain ⟨hn1,h⟩:=needE h
 refine run1z (c12 4) [{},{},{ k:=1 },{},{},{},{ k:=1 }] [4] [.i (Int.tmod (wr ((Int.tmod a0 a1) + a1)) a1)] ⟨[],0⟩ _ (by kernel_rfl) (cjC (hn1) (cj1 (hn1))) ?_
 refine run_t (by kernel_rfl) ?_
 replace h:=Option.some.inj h; subst h
 exact fin_r (by kernel_rfl) rfl
end Go.Proofs.Ytpljabnngpnieaa
