/-
 Functions of the program as Lean functions,and the walks. Written by a program of ours.
-/
import Derived.Test.YtpljabnngpnieaaV32
import Derived.Test.YtpljabnngpnieaaV13
namespace Go.Proofs.Ytpljabnngpnieaa
open Go Go.Am
set_option maxRecDepth 100000
set_option linter.all false
noncomputable def c40 (k:Nat):Code:=nthC (subs (Try.f40.body.getD .skip)) k
def f40 (a0:Int) (a1:Int) (a2:Int):Option Bool:=((bif (decide (a1 ≤ a0)) then (some (decide (a0 ≤ a2))) else (some false)):Option Bool).bind fun (j1_6:Bool)=>some j1_6
theorem f40_ok (a0:Int) (a1:Int) (a2:Int) (r:Bool) (h:f40 a0 a1 a2 = some r):APure Try.prog 40 [.i a0,.i a1,.i a2] (.bool r):=by
 refine apure (clK rfl (clK rfl (clK rfl clZ))) rfl ?_
 refine run_f 15 [.tmp 6] (c40 0) (zipE [0,1,2] [.i a0,.i a1,.i a2]) (by kernel_rfl) (by kernel_rfl) (by kernel_rfl) rfl ?_
 unfold f40 at h
 refine run1z (c40 2) [] [0,1,2] [.i a0,.i a1,.i a2] ⟨[],0⟩ _ (by kernel_rfl) cj0 ?_
 obtain ⟨j1_6,hj1,h⟩:=bindE h
 refine run_gq (c40 4) (fun (j1_6:Bool)=>(zipE [6] [.bool j1_6])) (fun (j1_6:Bool)=>⟨[],0⟩) (fun j=>j1_6 = j) (fun kj1=>?_) ?_
 ·rcases iteE hj1 with ⟨hc1,hj1⟩ | ⟨hc1,hj1⟩
  ·replace hj1:=Option.some.inj hj1; subst hj1
   exact run1z (c40 4) [{},{},{},{},{},{},{},{ k:=1,b:=true }] [6] [.bool (decide (a0 ≤ a2))] ⟨[],0⟩ _ (by kernel_rfl) (cjC (hc1) (cjC (hc1) (cjC (hc1) (cj1 (hc1))))) (kj1 (decide (a0 ≤ a2)) rfl)
  ·replace hj1:=Option.some.inj hj1; subst hj1
   exact run1z (c40 4) [{},{},{},{},{ g:=false },{ g:=false },{ g:=false },{ k:=1,b:=false }] [6] [.bool false] ⟨[],0⟩ _ (by kernel_rfl) (cjC (hc1) (cjC (hc1) (cjC (hc1) (cj1 (hc1))))) (kj1 false rfl)
 ·rintro _ rfl
  refine run_t (by kernel_rfl) ?_
  replace h:=Option.some.inj h; subst h
  exact fin_r (by kernel_rfl) rfl
def f15_1 (a0:GCPlayer) (a1:Int):Option (GFrame × Int × Int × Bool × List GCDesk × List GCLive × List GTake):=(f40 a1 0 a0.end_).bind fun r1=>bif (!r1) then (some ((⟨0,([]:List GVoice),([]:List GVoice)⟩:GFrame),1,a0.now,a0.waiting,a0.desks,a0.sounding.l,a0.takes)) else ((f35 a0).bind fun r3=>(f37 (⟨a0.clock,a0.now,a0.end_,a0.waiting,a0.desks,a0.from_,a0.to_,a0.times,(⟨r3.2.1⟩:GCShelf_live),r3.2.2⟩:GCPlayer) a1).bind fun r4=>some ((⟨a1,([]:List GVoice),r3.1⟩:GFrame),0,a1,true,r4,r3.2.1,r3.2.2))
theorem f15_1_ok (a0:GCPlayer) (a1:Int) (r:(GFrame × Int × Int × Bool × List GCDesk × List GCLive × List GTake)) (h:f15_1 a0 a1 = some r):ACalls Try.prog 15 [.mp 0 0 0,.i a1] ⟨[(3,.cells 5 (a0.takes.map E_GTake)),(2,.cells 7 (a0.sounding.l.map E_GCLive)),(1,.cells 3 (a0.desks.map E_GCDesk)),(0,.cells 11 [.agg [.i a0.clock.ticks,.i a0.now,.i a0.end_,.bool a0.waiting,.ms 1 0 a0.desks.length,.i a0.from_,.i a0.to_,.i a0.times,.ms 2 0 a0.sounding.l.length,.fn 31 [],.ms 3 0 a0.takes.length]])],4⟩ (fun y t=>y = .tup [.agg [.i r.1.time,.sl false (r.1.begin.map E_GVoice),.sl false (r.1.end_.map E_GVoice)],.i r.2.1] ∧ t = ⟨[(10,.cells 5 (r.2.2.2.2.2.2.map E_GTake)),(9,.cells 7 (r.2.2.2.2.2.1.map E_GCLive)),(1,.cells 3 (r.2.2.2.2.1.map E_GCDesk)),(0,.cells 11 [.agg [.i a0.clock.ticks,.i r.2.2.1,.i a0.end_,.bool r.2.2.2.1,.ms 1 0 r.2.2.2.2.1.length,.i a0.from_,.i a0.to_,.i a0.times,.ms 9 0 r.2.2.2.2.2.1.length,.fn 31 [],.ms 10 0 r.2.2.2.2.2.2.length]])],11⟩):=by
 refine run_f 31 [.cell 4 34,.tmp 5] (c15 0) (zipE [0,1] [.mp 0 0 0,.i a1]) (by kernel_rfl) (by kernel_rfl) (by kernel_rfl) rfl ?_
 unfold f15_1 at h
 let v_0:AV:=.ms 2 0 a0.sounding.l.length
 let v_1:AV:=.ms 1 0 a0.desks.length
 let v_2:AV:=.ms 3 0 a0.takes.length
 let v_3:AV:=.i a0.clock.ticks
 let v_4:AV:=.bool a0.waiting
 let w_0:AV:=.agg [v_3,.i a0.now,.i a0.end_,v_4,v_1,.i a0.from_,.i a0.to_,.i a0.times,v_0,.fn 31 [],v_2]
 let w_1:AV:=.agg [.i 0,.sl true [],.sl true []]
 let b_0:Blk:=.cells 7 (a0.sounding.l.map E_GCLive)
 let b_1:Blk:=.cells 3 (a0.desks.map E_GCDesk)
 let b_2:Blk:=.cells 5 (a0.takes.map E_GTake)
 let s_0:St:=⟨[(4,.cells 3 [w_1]),(3,b_2),(2,b_0),(1,b_1),(0,.cells 11 [w_0])],5⟩
 refine run1z (c15 2) [] [0,1,4] [.mp 0 0 0,.i a1,.mp 4 0 0] s_0 _ (by kernel_rfl) cj0 ?_
 refine run_s (c15 3) (c15 17) (by kernel_rfl) ?_
 refine run_b 0 (c15 4) (by kernel_rfl) ?_
 refine run1z (c15 6) [] [0,1,4,7] [.mp 0 0 0,.i a1,.mp 4 0 0,.bool false] s_0 _ (by kernel_rfl) cj0 ?_
 refine run_cF 7 (c15 7) (c15 10) false rfl (by kernel_rfl) (by kernel_rfl) ?_
 obtain ⟨r1,hr1,h⟩:=bindE h
 refine run1z (c15 12) [{},{},{},{},{},{ c:=some (.bool r1,s_0) }] [0,1,4,11] [.mp 0 0 0,.i a1,.mp 4 0 0,.bool (!r1)] s_0 _ (by kernel_rfl) (cj1 (f40_ok a1 0 a0.end_ _ hr1 s_0)) ?_
 rcases iteE h with ⟨hc2,h⟩ | ⟨hc2,h⟩
 ·refine run_cT 11 (c15 13) (c15 16) (!r1) hc2 (by kernel_rfl) (by kernel_rfl) ?_
  refine run1z (c15 15) [] [4,5] [.mp 4 0 0,.i 1] s_0 _ (by kernel_rfl) cj0 ?_
  let v_5:AV:=.ms 9 0 a0.sounding.l.length
  let w_2:AV:=.agg [v_3,.i a0.now,.i a0.end_,v_4,v_1,.i a0.from_,.i a0.to_,.i a0.times,v_5,.fn 31 [],.ms 10 0 a0.takes.length]
  refine run_i 5 [(9,2),(10,3)] [4,5] [.mp 4 0 0,.i 1] (xs:=[.mp 4 0 0,.i 1]) (S2:=⟨[(10,b_2),(9,b_0),(4,.cells 3 [E_GFrame (⟨0,([]:List GVoice),([]:List GVoice)⟩:GFrame)]),(1,b_1),(0,.cells 11 [w_2])],11⟩) ?_ (by intro i e; cases e <;> exact Nat.le_of_ble_eq_true rfl) (by kernel_rfl) (by kernel_rfl) (by kernel_rfl) (.k (.mp rfl rfl) (.k (.c rfl) .z)) (.k rfl (.cells (.r (cleanMap _ _ cl_GTake))) (.k rfl (.cells (.r (cleanMap _ _ cl_GCLive))) (.k rfl (.cells (.k (.a (.k (.c rfl) (.k (.s (cleanMap ([]:List GVoice) _ cl_GVoice)) (.k (.s (cleanMap ([]:List GVoice) _ cl_GVoice)) .z)))) .z)) (.k rfl (.cells (.r (cleanMap _ _ cl_GCDesk))) (.k rfl (.cells (.k (.a (.k (.c rfl) (.k (.c rfl) (.k (.c rfl) (.k (.c rfl) (.k (.ms rfl rfl) (.k (.c rfl) (.k (.c rfl) (.k (.c rfl) (.k (.ms rfl rfl) (.k (.c rfl) (.k (.ms rfl rfl) .z)))))))))))) .z)) .z)))))
  refine run_t (by kernel_rfl) ?_
  refine inbR ?_
  refine thenR ?_
  replace h:=Option.some.inj h; subst h
  exact fin_p [10,9,1,0] ⟨[(10,b_2),(9,b_0),(1,b_1),(0,.cells 11 [w_2])],11⟩ (by kernel_rfl) (by kernel_rfl) rfl ⟨rfl,rfl⟩
 ·refine run_cF 11 (c15 13) (c15 16) (!r1) hc2 (by kernel_rfl) (by kernel_rfl) ?_
  refine run_k (by kernel_rfl) ?_
  refine inbN ?_
  refine thenN ?_
  obtain ⟨r3,hr3,h⟩:=bindE h
  let v_6:AV:=.sl false (r3.1.map E_GVoice)
  let v_7:AV:=.ms 6 0 r3.2.1.length
  let v_8:AV:=.ms 7 0 r3.2.2.length
  let w_3:AV:=.agg [v_3,.i a0.now,.i a0.end_,v_4,v_1,.i a0.from_,.i a0.to_,.i a0.times,v_7,.fn 31 [],v_8]
  let w_4:AV:=.agg [.i a1,.sl true [],v_6]
  let b_3:Blk:=.cells 7 (r3.2.1.map E_GCLive)
  let b_4:Blk:=.cells 5 (r3.2.2.map E_GTake)
  let s_1:St:=⟨[(8,.cells 3 [w_4]),(7,b_4),(6,b_3),(4,.cells 3 [w_1]),(1,b_1),(0,.cells 11 [w_3])],9⟩
  let s_2:St:=⟨[(7,b_4),(6,b_3),(4,.cells 3 [w_1]),(1,b_1),(0,.cells 11 [w_3])],8⟩
  refine run1z (c15 19) [{},{},{ c:=some (v_6,s_2) }] [0,1,4,6] [.mp 0 0 0,.i a1,.mp 4 0 0,.mp 8 0 0] s_1 _ (by kernel_rfl) (cj1 (callF (f35_ok a0 _ hr3) [(0,0),(1,1),(2,2),(3,3)] [(7,6),(6,5),(1,1),(0,0)] [4] [.mp 0 0 0,.fn 36 []] s_0 (v_6) s_2 (by kernel_rfl) (.k (.mp rfl rfl) (.k (.c rfl) .z)) (.c (cleanMap _ _ cl_GVoice)) (.k rfl (.cells (.r (cleanMap _ _ cl_GTake))) (.k rfl (.cells (.r (cleanMap _ _ cl_GCLive))) (.k rfl (.cells (.r (cleanMap _ _ cl_GCDesk))) (.k rfl (.cells (.k (.a (.k (.c rfl) (.k (.c rfl) (.k (.c rfl) (.k (.c rfl) (.k (.ms rfl rfl) (.k (.c rfl) (.k (.c rfl) (.k (.c rfl) (.k (.ms rfl rfl) (.k (.c rfl) (.k (.ms rfl rfl) .z)))))))))))) .z)) .z)))) (.d (x':=b_4) rfl (by kernel_rfl) (.cells (.r (cleanMap _ _ cl_GTake))) (.d (x':=b_3) rfl (by kernel_rfl) (.cells (.r (cleanMap _ _ cl_GCLive))) (.f rfl (by kernel_rfl) (.d (x':=b_1) rfl (by kernel_rfl) (.cells (.r (cleanMap _ _ cl_GCDesk))) (.d (x':=.cells 11 [.agg [v_3,.i a0.now,.i a0.end_,v_4,v_1,.i a0.from_,.i a0.to_,.i a0.times,.ms 5 0 r3.2.1.length,.fn 31 [],.ms 6 0 r3.2.2.length]]) rfl (by kernel_rfl) (.cells (.k (.a (.k (.c rfl) (.k (.c rfl) (.k (.c rfl) (.k (.c rfl) (.k (.ms rfl rfl) (.k (.c rfl) (.k (.c rfl) (.k (.c rfl) (.k (.ms rfl rfl) (.k (.c rfl) (.k (.ms rfl rfl) .z)))))))))))) .z)) .z))))))) ?_
  obtain ⟨r4,hr4,h⟩:=bindE h
  let v_9:AV:=.ms 1 0 r4.length
  let w_5:AV:=.agg [v_3,.i a1,.i a0.end_,v_4,v_9,.i a0.from_,.i a0.to_,.i a0.times,v_7,.fn 31 [],v_8]
  let b_5:Blk:=.cells 3 (r4.map E_GCDesk)
  let s_3:St:=⟨[(8,.cells 3 [w_4]),(7,b_4),(6,b_3),(4,.cells 3 [w_1]),(1,b_5),(0,.cells 11 [w_5])],9⟩
  refine run1z (c15 21) [{},{},{ c:=some (.tup [],s_3) }] [0,4,6] [.mp 0 0 0,.mp 4 0 0,.mp 8 0 0] s_3 _ (by kernel_rfl) (cj1 (callF (f37_ok (⟨a0.clock,a0.now,a0.end_,a0.waiting,a0.desks,a0.from_,a0.to_,a0.times,(⟨r3.2.1⟩:GCShelf_live),r3.2.2⟩:GCPlayer) a1 _ hr4) [(0,0),(1,1),(2,6),(3,7)] [(7,3),(6,2),(1,1),(0,0)] [8,4] [.mp 0 0 0,.i a1] s_1 (.tup []) s_3 (by kernel_rfl) (.k (.mp rfl rfl) (.k (.c rfl) .z)) (.t .z) (.k rfl (.cells (.r (cleanMap _ _ cl_GTake))) (.k rfl (.cells (.r (cleanMap _ _ cl_GCLive))) (.k rfl (.cells (.r (cleanMap _ _ cl_GCDesk))) (.k rfl (.cells (.k (.a (.k (.c rfl) (.k (.c rfl) (.k (.c rfl) (.k (.c rfl) (.k (.ms rfl rfl) (.k (.c rfl) (.k (.c rfl) (.k (.c rfl) (.k (.ms rfl rfl) (.k (.c rfl) (.k (.ms rfl rfl) .z)))))))))))) .z)) .z)))) (.f rfl (by kernel_rfl) (.d (x':=b_4) rfl (by kernel_rfl) (.cells (.r (cleanMap _ _ cl_GTake))) (.d (x':=b_3) rfl (by kernel_rfl) (.cells (.r (cleanMap _ _ cl_GCLive))) (.f rfl (by kernel_rfl) (.d (x':=b_5) rfl (by kernel_rfl) (.cells (.r (cleanMap _ _ cl_GCDesk))) (.d (x':=.cells 11 [.agg [v_3,.i a1,.i a0.end_,v_4,v_9,.i a0.from_,.i a0.to_,.i a0.times,.ms 2 0 r3.2.1.length,.fn 31 [],.ms 3 0 r3.2.2.length]]) rfl (by kernel_rfl) (.cells (.k (.a (.k (.c rfl) (.k (.c rfl) (.k (.c rfl) (.k (.c rfl) (.k (.ms rfl rfl) (.k (.c rfl) (.k (.c rfl) (.k (.c rfl) (.k (.ms rfl rfl) (.k (.c rfl) (.k (.ms rfl rfl) .z)))))))))))) .z)) .z)))))))) ?_
  let w_6:AV:=.agg [v_3,.i a1,.i a0.end_,.bool true,v_9,.i a0.from_,.i a0.to_,.i a0.times,v_7,.fn 31 [],v_8]
  refine run1z (c15 23) [] [4,6] [.mp 4 0 0,.mp 8 0 0] ⟨[(8,.cells 3 [w_4]),(7,b_4),(6,b_3),(4,.cells 3 [w_1]),(1,b_5),(0,.cells 11 [w_6])],9⟩ _ (by kernel_rfl) cj0 ?_
  refine run1z (c15 25) [] [4,5] [.mp 4 0 0,.i 0] ⟨[(7,b_4),(6,b_3),(4,.cells 3 [w_4]),(1,b_5),(0,.cells 11 [w_6])],9⟩ _ (by kernel_rfl) cj0 ?_
  let w_7:AV:=.agg [v_3,.i a1,.i a0.end_,.bool true,v_9,.i a0.from_,.i a0.to_,.i a0.times,.ms 9 0 r3.2.1.length,.fn 31 [],.ms 10 0 r3.2.2.length]
  refine run_i 9 [(9,6),(10,7)] [4,5] [.mp 4 0 0,.i 0] (xs:=[.mp 4 0 0,.i 0]) (S2:=⟨[(10,b_4),(9,b_3),(4,.cells 3 [E_GFrame (⟨a1,([]:List GVoice),r3.1⟩:GFrame)]),(1,b_5),(0,.cells 11 [w_7])],11⟩) ?_ (by intro i e; cases e <;> exact Nat.le_of_ble_eq_true rfl) (by kernel_rfl) (by kernel_rfl) (by kernel_rfl) (.k (.mp rfl rfl) (.k (.c rfl) .z)) (.k rfl (.cells (.r (cleanMap _ _ cl_GTake))) (.k rfl (.cells (.r (cleanMap _ _ cl_GCLive))) (.k rfl (.cells (.k (.a (.k (.c rfl) (.k (.s (cleanMap ([]:List GVoice) _ cl_GVoice)) (.k (.c (cleanMap _ _ cl_GVoice)) .z)))) .z)) (.k rfl (.cells (.r (cleanMap _ _ cl_GCDesk))) (.k rfl (.cells (.k (.a (.k (.c rfl) (.k (.c rfl) (.k (.c rfl) (.k (.c rfl) (.k (.ms rfl rfl) (.k (.c rfl) (.k (.c rfl) (.k (.c rfl) (.k (.ms rfl rfl) (.k (.c rfl) (.k (.ms rfl rfl) .z)))))))))))) .z)) .z)))))
  refine run_t (by kernel_rfl) ?_
  replace h:=Option.some.inj h; subst h
  exact fin_p [10,9,1,0] ⟨[(10,b_4),(9,b_3),(1,b_5),(0,.cells 11 [w_7])],11⟩ (by kernel_rfl) (by kernel_rfl) rfl ⟨rfl,rfl⟩
end Go.Proofs.Ytpljabnngpnieaa
