/-
 Functions of the program as Lean functions,and the walks. Written by a program of ours.
-/
import Derived.Test.YtpljabnngpnieaaV32
import Derived.Test.YtpljabnngpnieaaV15
namespace Go.Proofs.Ytpljabnngpnieaa
open Go Go.Am
set_option maxRecDepth 100000
set_option linter.all false
def f18_1 (a0:GCPlayer) (a1:Int) (a2:Int) (a3:Int):Option (Int × Int × Int × Int):=((bif (decide (a1 < 0)) then (some (decide (a1 < 0))) else (bif (decide (a2 ≤ a1)) then (some (decide (a2 ≤ a1))) else (bif (decide (a0.end_ < a2)) then (some (decide (a0.end_ < a2))) else ((f40 a3 0 100).bind fun r4=>some (!r4))))):Option Bool).bind fun (j1_12:Bool)=>bif j1_12 then (some (1,a0.from_,a0.to_,a0.times)) else (some (0,a1,a2,a3))
theorem f18_1_ok (a0:GCPlayer) (a1:Int) (a2:Int) (a3:Int) (r:(Int × Int × Int × Int)) (h:f18_1 a0 a1 a2 a3 = some r):ACalls Try.prog 18 [.mp 0 0 0,.i a1,.i a2,.i a3] ⟨[(3,.cells 5 (a0.takes.map E_GTake)),(2,.cells 7 (a0.sounding.l.map E_GCLive)),(1,.cells 3 (a0.desks.map E_GCDesk)),(0,.cells 11 [.agg [.i a0.clock.ticks,.i a0.now,.i a0.end_,.bool a0.waiting,.ms 1 0 a0.desks.length,.i a0.from_,.i a0.to_,.i a0.times,.ms 2 0 a0.sounding.l.length,.fn 31 [],.ms 3 0 a0.takes.length]])],4⟩ (fun y t=>y = .i r.1 ∧ t = ⟨[(3,.cells 5 (a0.takes.map E_GTake)),(2,.cells 7 (a0.sounding.l.map E_GCLive)),(1,.cells 3 (a0.desks.map E_GCDesk)),(0,.cells 11 [.agg [.i a0.clock.ticks,.i a0.now,.i a0.end_,.bool a0.waiting,.ms 1 0 a0.desks.length,.i r.2.1,.i r.2.2.1,.i r.2.2.2,.ms 2 0 a0.sounding.l.length,.fn 31 [],.ms 3 0 a0.takes.length]])],4⟩):=by
 refine run_f 39 [.tmp 8] (c18 0) (zipE [0,1,2,3] [.mp 0 0 0,.i a1,.i a2,.i a3]) (by kernel_rfl) (by kernel_rfl) (by kernel_rfl) rfl ?_
 unfold f18_1 at h
 let v_0:AV:=.ms 2 0 a0.sounding.l.length
 let v_1:AV:=.ms 1 0 a0.desks.length
 let v_2:AV:=.ms 3 0 a0.takes.length
 let v_3:AV:=.i a0.clock.ticks
 let v_4:AV:=.bool a0.waiting
 let w_0:AV:=.agg [v_3,.i a0.now,.i a0.end_,v_4,v_1,.i a0.from_,.i a0.to_,.i a0.times,v_0,.fn 31 [],v_2]
 let b_0:Blk:=.cells 7 (a0.sounding.l.map E_GCLive)
 let b_1:Blk:=.cells 3 (a0.desks.map E_GCDesk)
 let b_2:Blk:=.cells 5 (a0.takes.map E_GTake)
 let s_0:St:=⟨[(3,b_2),(2,b_0),(1,b_1),(0,.cells 11 [w_0])],4⟩
 refine run1z (c18 2) [] [0,1,2,3] [.mp 0 0 0,.i a1,.i a2,.i a3] s_0 _ (by kernel_rfl) cj0 ?_
 refine run_s (c18 3) (c18 29) (by kernel_rfl) ?_
 refine run_b 0 (c18 4) (by kernel_rfl) ?_
 refine run1z (c18 6) [] [0,1,2,3,9] [.mp 0 0 0,.i a1,.i a2,.i a3,.bool false] s_0 _ (by kernel_rfl) cj0 ?_
 refine run_cF 9 (c18 7) (c18 10) false rfl (by kernel_rfl) (by kernel_rfl) ?_
 obtain ⟨j1_12,hj1,h⟩:=bindE h
 refine run_jq (c18 11) (c18 24) (fun (j1_12:Bool)=>(zipE [0,1,2,3,12] [.mp 0 0 0,.i a1,.i a2,.i a3,.bool j1_12])) (fun (j1_12:Bool)=>s_0) (fun j=>j1_12 = j) (by kernel_rfl) (fun kj1=>?_) ?_
 ·refine run1z (c18 13) [] [0,1,2,3,12] [.mp 0 0 0,.i a1,.i a2,.i a3,.bool (decide (a1 < 0))] s_0 _ (by kernel_rfl) cj0 ?_
  rcases iteE hj1 with ⟨hc1,hj1⟩ | ⟨hc1,hj1⟩
  ·refine run_cT 12 (c18 14) (c18 15) (decide (a1 < 0)) hc1 (by kernel_rfl) (by kernel_rfl) ?_
   replace hj1:=Option.some.inj hj1; subst hj1
   refine run_k (by kernel_rfl) ?_
   refine thenN ?_
   exact kj1 (decide (a1 < 0)) rfl
  ·refine run_cF 12 (c18 14) (c18 15) (decide (a1 < 0)) hc1 (by kernel_rfl) (by kernel_rfl) ?_
   refine run1z (c18 17) [] [0,1,2,3,12] [.mp 0 0 0,.i a1,.i a2,.i a3,.bool (decide (a2 ≤ a1))] s_0 _ (by kernel_rfl) cj0 ?_
   rcases iteE hj1 with ⟨hc2,hj1⟩ | ⟨hc2,hj1⟩
   ·refine run_cT 12 (c18 18) (c18 19) (decide (a2 ≤ a1)) hc2 (by kernel_rfl) (by kernel_rfl) ?_
    replace hj1:=Option.some.inj hj1; subst hj1
    refine run_k (by kernel_rfl) ?_
    refine thenN ?_
    exact kj1 (decide (a2 ≤ a1)) rfl
   ·refine run_cF 12 (c18 18) (c18 19) (decide (a2 ≤ a1)) hc2 (by kernel_rfl) (by kernel_rfl) ?_
    refine run1z (c18 21) [] [0,1,2,3,12] [.mp 0 0 0,.i a1,.i a2,.i a3,.bool (decide (a0.end_ < a2))] s_0 _ (by kernel_rfl) cj0 ?_
    rcases iteE hj1 with ⟨hc3,hj1⟩ | ⟨hc3,hj1⟩
    ·refine run_cT 12 (c18 22) (c18 23) (decide (a0.end_ < a2)) hc3 (by kernel_rfl) (by kernel_rfl) ?_
     replace hj1:=Option.some.inj hj1; subst hj1
     refine run_k (by kernel_rfl) ?_
     refine thenN ?_
     exact kj1 (decide (a0.end_ < a2)) rfl
    ·refine run_cF 12 (c18 22) (c18 23) (decide (a0.end_ < a2)) hc3 (by kernel_rfl) (by kernel_rfl) ?_
     obtain ⟨r4,hr4,hj1⟩:=bindE hj1
     refine run0z [{},{ c:=some (.bool r4,s_0) }] [0,1,2,3,12] [.mp 0 0 0,.i a1,.i a2,.i a3,.bool (!r4)] s_0 _ (by kernel_rfl) (cj1 (f40_ok a3 0 100 _ hr4 s_0)) ?_
     replace hj1:=Option.some.inj hj1; subst hj1
     refine thenN ?_
     exact kj1 (!r4) rfl
 ·rintro _ rfl
  rcases iteE h with ⟨hc5,h⟩ | ⟨hc5,h⟩
  ·refine run_cT 12 (c18 25) (c18 28) j1_12 hc5 (by kernel_rfl) (by kernel_rfl) ?_
   refine run1z (c18 27) [] [8] [.i 1] s_0 _ (by kernel_rfl) cj0 ?_
   refine run_t (by kernel_rfl) ?_
   refine inbR ?_
   refine thenR ?_
   replace h:=Option.some.inj h; subst h
   exact fin_p [3,2,1,0] s_0 (by kernel_rfl) (by kernel_rfl) rfl ⟨rfl,rfl⟩
  ·refine run_cF 12 (c18 25) (c18 28) j1_12 hc5 (by kernel_rfl) (by kernel_rfl) ?_
   refine run_k (by kernel_rfl) ?_
   refine inbN ?_
   refine thenN ?_
   let w_1:AV:=.agg [v_3,.i a0.now,.i a0.end_,v_4,v_1,.i a1,.i a2,.i a3,v_0,.fn 31 [],v_2]
   let s_1:St:=⟨[(3,b_2),(2,b_0),(1,b_1),(0,.cells 11 [w_1])],4⟩
   refine run1z (c18 31) [] [] [] s_1 _ (by kernel_rfl) cj0 ?_
   refine run1z (c18 33) [] [8] [.i 0] s_1 _ (by kernel_rfl) cj0 ?_
   refine run_t (by kernel_rfl) ?_
   replace h:=Option.some.inj h; subst h
   exact fin_p [3,2,1,0] s_1 (by kernel_rfl) (by kernel_rfl) rfl ⟨rfl,rfl⟩
end Go.Proofs.Ytpljabnngpnieaa
