/-
 Functions of the program as Lean functions,and the walks. Written by a program of ours.
-/
import Derived.Test.YtpljabnngpnieaaV32
import Derived.Test.YtpljabnngpnieaaV13
namespace Go.Proofs.Ytpljabnngpnieaa
open Go Go.Am
set_option maxRecDepth 100000
set_option linter.all false
def f16_1 (a0:GCPlayer):Option (List GFrame × Bool × Int × Int × Bool × List GCDesk × Int × List GCLive × List GTake):=(loopN (σ:=(Int × Int × Bool × List GCDesk × Int × List GCLive × List GTake × List GFrame × Int)) (τ:=((Int × Int × Bool × List GCDesk × Int × List GCLive × List GTake) ⊕ (List GFrame × Bool × Int × Int × Bool × List GCDesk × Int × List GCLive × List GTake))) (fun ((l1_h0_0,l1_h0_1,l1_h0_3,l1_h0_4,l1_h0_7,l1_h0_8,l1_h0_10,l1_4,l1_7):(Int × Int × Bool × List GCDesk × Int × List GCLive × List GTake × List GFrame × Int))=>bif (decide (l1_7 < 20000)) then ((f13_1 (⟨(⟨l1_h0_0⟩:GCClock),l1_h0_1,a0.end_,l1_h0_3,l1_h0_4,a0.from_,a0.to_,l1_h0_7,(⟨l1_h0_8⟩:GCShelf_live),l1_h0_10⟩:GCPlayer)).bind fun r2=>bif (decide (r2.2.1 = 92)) then (some (.inr (.inr (l1_4,true,r2.2.2.1,r2.2.2.2.1,r2.2.2.2.2.1,r2.2.2.2.2.2.1,r2.2.2.2.2.2.2.1,r2.2.2.2.2.2.2.2.1,r2.2.2.2.2.2.2.2.2)))) else (bif (decide (r2.2.1 ≠ 0)) then (some (.inr (.inr (([]:List GFrame),false,r2.2.2.1,r2.2.2.2.1,r2.2.2.2.2.1,r2.2.2.2.2.2.1,r2.2.2.2.2.2.2.1,r2.2.2.2.2.2.2.2.1,r2.2.2.2.2.2.2.2.2)))) else (need (l1_4.length + 1 ≤ maxElems) <| some (.inl (r2.2.2.1,r2.2.2.2.1,r2.2.2.2.2.1,r2.2.2.2.2.2.1,r2.2.2.2.2.2.2.1,r2.2.2.2.2.2.2.2.1,r2.2.2.2.2.2.2.2.2,(l1_4 ++ [(⟨r2.1.time,r2.1.begin,r2.1.end_⟩:GFrame)]),(wr (l1_7 + 1))))))) else (some (.inr (.inl (l1_h0_0,l1_h0_1,l1_h0_3,l1_h0_4,l1_h0_7,l1_h0_8,l1_h0_10))))) FUEL (a0.clock.ticks,a0.now,a0.waiting,a0.desks,a0.times,a0.sounding.l,a0.takes,([]:List GFrame),0)).bind (Sum.elim (fun ((l1x_h0_0,l1x_h0_1,l1x_h0_3,l1x_h0_4,l1x_h0_7,l1x_h0_8,l1x_h0_10):(Int × Int × Bool × List GCDesk × Int × List GCLive × List GTake))=>some (([]:List GFrame),false,l1x_h0_0,l1x_h0_1,l1x_h0_3,l1x_h0_4,l1x_h0_7,l1x_h0_8,l1x_h0_10)) some)
theorem f16_1_ok (a0:GCPlayer) (r:(List GFrame × Bool × Int × Int × Bool × List GCDesk × Int × List GCLive × List GTake)) (h:f16_1 a0 = some r):ACalls Try.prog 16 [.mp 0 0 0] ⟨[(3,.cells 5 (a0.takes.map E_GTake)),(2,.cells 7 (a0.sounding.l.map E_GCLive)),(1,.cells 3 (a0.desks.map E_GCDesk)),(0,.cells 11 [.agg [.i a0.clock.ticks,.i a0.now,.i a0.end_,.bool a0.waiting,.ms 1 0 a0.desks.length,.i a0.from_,.i a0.to_,.i a0.times,.ms 2 0 a0.sounding.l.length,.fn 31 [],.ms 3 0 a0.takes.length]])],4⟩ (fun y t=>y = .tup [.sl false (r.1.map E_GFrame),.bool r.2.1] ∧ t = ⟨[(21,.cells 5 (r.2.2.2.2.2.2.2.2.map E_GTake)),(20,.cells 7 (r.2.2.2.2.2.2.2.1.map E_GCLive)),(1,.cells 3 (r.2.2.2.2.2.1.map E_GCDesk)),(0,.cells 11 [.agg [.i r.2.2.1,.i r.2.2.2.1,.i a0.end_,.bool r.2.2.2.2.1,.ms 1 0 r.2.2.2.2.2.1.length,.i a0.from_,.i a0.to_,.i r.2.2.2.2.2.2.1,.ms 20 0 r.2.2.2.2.2.2.2.1.length,.fn 31 [],.ms 21 0 r.2.2.2.2.2.2.2.2.length]])],22⟩):=by
 refine run_f 24 [.tmp 2,.tmp 3] (c16 0) (zipE [0] [.mp 0 0 0]) (by kernel_rfl) (by kernel_rfl) (by kernel_rfl) rfl ?_
 unfold f16_1 at h
 let v_0:AV:=.ms 2 0 a0.sounding.l.length
 let v_1:AV:=.ms 1 0 a0.desks.length
 let v_2:AV:=.ms 3 0 a0.takes.length
 let v_3:AV:=.i a0.clock.ticks
 let v_4:AV:=.bool a0.waiting
 let w_0:AV:=.agg [v_3,.i a0.now,.i a0.end_,v_4,v_1,.i a0.from_,.i a0.to_,.i a0.times,v_0,.fn 31 [],v_2]
 let b_0:Blk:=.cells 7 (a0.sounding.l.map E_GCLive)
 let b_1:Blk:=.cells 3 (a0.desks.map E_GCDesk)
 let b_2:Blk:=.cells 5 (a0.takes.map E_GTake)
 let s_0:St:=⟨[(3,b_2),(2,b_0),(1,b_1),(0,.cells 11 [w_0])],4⟩
 refine run1z (c16 2) [] [0] [.mp 0 0 0] s_0 _ (by kernel_rfl) cj0 ?_
 refine run1z (c16 4) [] [0,4] [.mp 0 0 0,.sl true []] s_0 _ (by kernel_rfl) cj0 ?_
 refine run_s (c16 5) (c16 37) (by kernel_rfl) ?_
 refine run1z (c16 7) [] [0,4,7] [.mp 0 0 0,.sl true [],.i 0] s_0 _ (by kernel_rfl) cj0 ?_
 obtain ⟨ol1x,hll1x,h⟩:=bindE h
 refine run_tq (fun ((l1x_h0_0,l1x_h0_1,l1x_h0_3,l1x_h0_4,l1x_h0_7,l1x_h0_8,l1x_h0_10):(Int × Int × Bool × List GCDesk × Int × List GCLive × List GTake))=>(zipE [] [])) (fun ((l1x_h0_0,l1x_h0_1,l1x_h0_3,l1x_h0_4,l1x_h0_7,l1x_h0_8,l1x_h0_10):(Int × Int × Bool × List GCDesk × Int × List GCLive × List GTake))=>⟨[(5,.cells 5 (l1x_h0_10.map E_GTake)),(4,.cells 7 (l1x_h0_8.map E_GCLive)),(1,.cells 3 (l1x_h0_4.map E_GCDesk)),(0,.cells 11 [.agg [.i l1x_h0_0,.i l1x_h0_1,.i a0.end_,.bool l1x_h0_3,.ms 1 0 l1x_h0_4.length,.i a0.from_,.i a0.to_,.i l1x_h0_7,.ms 4 0 l1x_h0_8.length,.fn 31 [],.ms 5 0 l1x_h0_10.length]])],7⟩) (fun j=>ol1x = .inl j) (fun kl1=>?_) ?_
 ·refine run_b 0 (c16 8) (by kernel_rfl) ?_
  refine run_l (c16 9) _ hll1x (fun ((l1_h0_0,l1_h0_1,l1_h0_3,l1_h0_4,l1_h0_7,l1_h0_8,l1_h0_10,l1_4,l1_7):(Int × Int × Bool × List GCDesk × Int × List GCLive × List GTake × List GFrame × Int))=>(zipE [0,4,7] [.mp 0 0 0,.ms 6 0 l1_4.length,.i l1_7])) (fun ((l1_h0_0,l1_h0_1,l1_h0_3,l1_h0_4,l1_h0_7,l1_h0_8,l1_h0_10,l1_4,l1_7):(Int × Int × Bool × List GCDesk × Int × List GCLive × List GTake × List GFrame × Int))=>⟨[(6,.cells 3 (l1_4.map E_GFrame)),(5,.cells 5 (l1_h0_10.map E_GTake)),(4,.cells 7 (l1_h0_8.map E_GCLive)),(1,.cells 3 (l1_h0_4.map E_GCDesk)),(0,.cells 11 [.agg [.i l1_h0_0,.i l1_h0_1,.i a0.end_,.bool l1_h0_3,.ms 1 0 l1_h0_4.length,.i a0.from_,.i a0.to_,.i l1_h0_7,.ms 4 0 l1_h0_8.length,.fn 31 [],.ms 5 0 l1_h0_10.length]])],7⟩) [(4,2),(5,3),(6,1000000)] (by intro i e; cases e <;> exact Nat.le_of_ble_eq_true rfl) (by kernel_rfl) (mkInto (ks:=[0,4,7]) (ys:=[.mp 0 0 0,.sl true [],.i 0]) (by kernel_rfl) (by kernel_rfl) (.k (.mp rfl rfl) (.k (.n) (.k (.c rfl) .z))) (.n rfl rfl rfl (.k rfl (.cells (.r (cleanMap _ _ cl_GTake))) (.k rfl (.cells (.r (cleanMap _ _ cl_GCLive))) (.k rfl (.cells (.r (cleanMap _ _ cl_GCDesk))) (.k rfl (.cells (.k (.a (.k (.c rfl) (.k (.c rfl) (.k (.c rfl) (.k (.c rfl) (.k (.ms rfl rfl) (.k (.c rfl) (.k (.c rfl) (.k (.c rfl) (.k (.ms rfl rfl) (.k (.c rfl) (.k (.ms rfl rfl) .z)))))))))))) .z)) .z)))))) ?_
  rintro ⟨l1_h0_0,l1_h0_1,l1_h0_3,l1_h0_4,l1_h0_7,l1_h0_8,l1_h0_10,l1_4,l1_7⟩ out hl1 rl1
  let v_5:AV:=.ms 5 0 l1_h0_10.length
  let v_6:AV:=.ms 1 0 l1_h0_4.length
  let v_7:AV:=.ms 4 0 l1_h0_8.length
  let v_8:AV:=.ms 6 0 l1_4.length
  let w_1:AV:=.agg [.i l1_h0_0,.i l1_h0_1,.i a0.end_,.bool l1_h0_3,v_6,.i a0.from_,.i a0.to_,.i l1_h0_7,v_7,.fn 31 [],v_5]
  let b_3:Blk:=.cells 5 (l1_h0_10.map E_GTake)
  let b_4:Blk:=.cells 7 (l1_h0_8.map E_GCLive)
  let b_5:Blk:=.cells 3 (l1_h0_4.map E_GCDesk)
  let b_6:Blk:=.cells 3 (l1_4.map E_GFrame)
  let s_1:St:=⟨[(6,b_6),(5,b_3),(4,b_4),(1,b_5),(0,.cells 11 [w_1])],7⟩
  refine run1z (c16 11) [] [0,4,7,8] [.mp 0 0 0,v_8,.i l1_7,.bool (decide (l1_7 < 20000))] s_1 _ (by kernel_rfl) cj0 ?_
  refine run_s (c16 12) (c16 15) (by kernel_rfl) ?_
  rcases iteE hl1 with ⟨hc1,hl1⟩ | ⟨hc1,hl1⟩
  ·refine run_cT 8 (c16 13) (c16 14) (decide (l1_7 < 20000)) hc1 (by kernel_rfl) (by kernel_rfl) ?_
   refine run_k (by kernel_rfl) ?_
   refine thenN ?_
   refine run_s (c16 16) (c16 36) (by kernel_rfl) ?_
   refine run_b 1 (c16 17) (by kernel_rfl) ?_
   obtain ⟨r2,hr2,hl1⟩:=bindE hl1
   let v_9:AV:=.sl false (r2.1.begin.map E_GVoice)
   let v_10:AV:=.sl false (r2.1.end_.map E_GVoice)
   let v_11:AV:=.ms 17 0 r2.2.2.2.2.2.2.2.1.length
   let v_12:AV:=.ms 18 0 r2.2.2.2.2.2.2.2.2.length
   let v_13:AV:=.ms 1 0 r2.2.2.2.2.2.1.length
   let v_14:AV:=.i r2.2.2.2.2.2.2.1
   let v_15:AV:=.bool r2.2.2.2.2.1
   let w_2:AV:=.agg [.i r2.2.2.1,.i r2.2.2.2.1,.i a0.end_,v_15,v_13,.i a0.from_,.i a0.to_,v_14,v_11,.fn 31 [],v_12]
   let w_3:AV:=.tup [.agg [.i r2.1.time,v_9,v_10],.i r2.2.1]
   let w_4:AV:=.agg [.i r2.1.time,v_9,v_10]
   let b_7:Blk:=.cells 7 (r2.2.2.2.2.2.2.2.1.map E_GCLive)
   let b_8:Blk:=.cells 5 (r2.2.2.2.2.2.2.2.2.map E_GTake)
   let b_9:Blk:=.cells 3 (r2.2.2.2.2.2.1.map E_GCDesk)
   let s_2:St:=⟨[(19,.cells 3 [w_4]),(18,b_8),(17,b_7),(6,b_6),(1,b_9),(0,.cells 11 [w_2])],20⟩
   let s_3:St:=⟨[(18,b_8),(17,b_7),(6,b_6),(1,b_9),(0,.cells 11 [w_2])],19⟩
   refine run1z (c16 19) [{},{ c:=some (w_3,s_3) }] [0,4,5,6,7] [.mp 0 0 0,v_8,.mp 19 0 0,.i r2.2.1,.i l1_7] s_2 _ (by kernel_rfl) (cj1 (callF (f13_1_ok (⟨(⟨l1_h0_0⟩:GCClock),l1_h0_1,a0.end_,l1_h0_3,l1_h0_4,a0.from_,a0.to_,l1_h0_7,(⟨l1_h0_8⟩:GCShelf_live),l1_h0_10⟩:GCPlayer) _ hr2) [(0,0),(1,1),(2,4),(3,5)] [(18,15),(17,14),(1,1),(0,0)] [6] [.mp 0 0 0] s_1 (w_3) s_3 (by kernel_rfl) (.k (.mp rfl rfl) .z) (.t (.k (.c (cl_GFrame (⟨r2.1.time,r2.1.begin,r2.1.end_⟩:GFrame))) (.k (.c rfl) .z))) (.k rfl (.cells (.r (cleanMap _ _ cl_GTake))) (.k rfl (.cells (.r (cleanMap _ _ cl_GCLive))) (.k rfl (.cells (.r (cleanMap _ _ cl_GCDesk))) (.k rfl (.cells (.k (.a (.k (.c rfl) (.k (.c rfl) (.k (.c rfl) (.k (.c rfl) (.k (.ms rfl rfl) (.k (.c rfl) (.k (.c rfl) (.k (.c rfl) (.k (.ms rfl rfl) (.k (.c rfl) (.k (.ms rfl rfl) .z)))))))))))) .z)) .z)))) (.d (x':=b_8) rfl (by kernel_rfl) (.cells (.r (cleanMap _ _ cl_GTake))) (.d (x':=b_7) rfl (by kernel_rfl) (.cells (.r (cleanMap _ _ cl_GCLive))) (.f rfl (by kernel_rfl) (.d (x':=b_9) rfl (by kernel_rfl) (.cells (.r (cleanMap _ _ cl_GCDesk))) (.d (x':=.cells 11 [.agg [.i r2.2.2.1,.i r2.2.2.2.1,.i a0.end_,v_15,v_13,.i a0.from_,.i a0.to_,v_14,.ms 14 0 r2.2.2.2.2.2.2.2.1.length,.fn 31 [],.ms 15 0 r2.2.2.2.2.2.2.2.2.length]]) rfl (by kernel_rfl) (.cells (.k (.a (.k (.c rfl) (.k (.c rfl) (.k (.c rfl) (.k (.c rfl) (.k (.ms rfl rfl) (.k (.c rfl) (.k (.c rfl) (.k (.c rfl) (.k (.ms rfl rfl) (.k (.c rfl) (.k (.ms rfl rfl) .z)))))))))))) .z)) .z))))))) ?_
   refine run_s (c16 20) (c16 27) (by kernel_rfl) ?_
   refine run1z (c16 22) [] [0,4,5,6,7,15] [.mp 0 0 0,v_8,.mp 19 0 0,.i r2.2.1,.i l1_7,.bool (decide (r2.2.1 = 92))] s_2 _ (by kernel_rfl) cj0 ?_
   rcases iteE hl1 with ⟨hc3,hl1⟩ | ⟨hc3,hl1⟩
   ·refine run_cT 15 (c16 23) (c16 26) (decide (r2.2.1 = 92)) hc3 (by kernel_rfl) (by kernel_rfl) ?_
    refine run1z (c16 25) [] [2,3] [v_8,.bool true] ⟨[(18,b_8),(17,b_7),(6,b_6),(1,b_9),(0,.cells 11 [w_2])],20⟩ _ (by kernel_rfl) cj0 ?_
    replace hl1:=Option.some.inj hl1; subst hl1
    have hr:=rl1 _ rfl
    subst hr
    replace h:=elimR h
    let v_16:AV:=.sl false (l1_4.map E_GFrame)
    refine run_z 6 3 (l1_4.map E_GFrame) [2,3] [v_8,.bool true] (xs:=[v_16,.bool true]) (S2:=⟨[(18,b_8),(17,b_7),(1,b_9),(0,.cells 11 [w_2])],20⟩) ?_ (by kernel_rfl) (by kernel_rfl) (.k (.m (mLe l1_4 E_GFrame) (mapAll l1_4 E_GFrame)) (.k (.r _) .z)) (.k (x':=b_8) rfl (by kernel_rfl) (.r _) (.k (x':=b_7) rfl (by kernel_rfl) (.r _) (.k (x':=b_9) rfl (by kernel_rfl) (.r _) (.k (x':=.cells 11 [w_2]) rfl (by kernel_rfl) (.r _) .z)))) rfl rfl
    let w_5:AV:=.agg [.i r2.2.2.1,.i r2.2.2.2.1,.i a0.end_,v_15,v_13,.i a0.from_,.i a0.to_,v_14,.ms 20 0 r2.2.2.2.2.2.2.2.1.length,.fn 31 [],.ms 21 0 r2.2.2.2.2.2.2.2.2.length]
    let s_4:St:=⟨[(21,b_8),(20,b_7),(1,b_9),(0,.cells 11 [w_5])],22⟩
    refine run_i 20 [(20,17),(21,18)] [2,3] [v_16,.bool true] (xs:=[v_16,.bool true]) (S2:=s_4) ?_ (by intro i e; cases e <;> exact Nat.le_of_ble_eq_true rfl) (by kernel_rfl) (by kernel_rfl) (by kernel_rfl) (.k (.c (cleanMap _ _ cl_GFrame)) (.k (.c rfl) .z)) (.k rfl (.cells (.r (cleanMap _ _ cl_GTake))) (.k rfl (.cells (.r (cleanMap _ _ cl_GCLive))) (.k rfl (.cells (.r (cleanMap _ _ cl_GCDesk))) (.k rfl (.cells (.k (.a (.k (.c rfl) (.k (.c rfl) (.k (.c rfl) (.k (.c rfl) (.k (.ms rfl rfl) (.k (.c rfl) (.k (.c rfl) (.k (.c rfl) (.k (.ms rfl rfl) (.k (.c rfl) (.k (.ms rfl rfl) .z)))))))))))) .z)) .z))))
    refine run_t (by kernel_rfl) ?_
    refine thenR ?_
    refine inbR ?_
    refine thenR ?_
    refine ⟨⟨_,rfl⟩,?_⟩
    refine inbR ?_
    refine thenR ?_
    replace h:=Option.some.inj h; subst h
    exact fin_p [21,20,1,0] s_4 (by kernel_rfl) (by kernel_rfl) rfl ⟨rfl,rfl⟩
   ·refine run_cF 15 (c16 23) (c16 26) (decide (r2.2.1 = 92)) hc3 (by kernel_rfl) (by kernel_rfl) ?_
    refine run_k (by kernel_rfl) ?_
    refine thenN ?_
    refine run_s (c16 28) (c16 35) (by kernel_rfl) ?_
    refine run1z (c16 30) [] [0,4,5,7,18] [.mp 0 0 0,v_8,.mp 19 0 0,.i l1_7,.bool (decide (r2.2.1 ≠ 0))] s_2 _ (by kernel_rfl) cj0 ?_
    rcases iteE hl1 with ⟨hc4,hl1⟩ | ⟨hc4,hl1⟩
    ·refine run_cT 18 (c16 31) (c16 34) (decide (r2.2.1 ≠ 0)) hc4 (by kernel_rfl) (by kernel_rfl) ?_
     refine run1z (c16 33) [] [2,3] [.sl true [],.bool false] ⟨[(18,b_8),(17,b_7),(1,b_9),(0,.cells 11 [w_2])],20⟩ _ (by kernel_rfl) cj0 ?_
     replace hl1:=Option.some.inj hl1; subst hl1
     have hr:=rl1 _ rfl
     subst hr
     replace h:=elimR h
     let w_6:AV:=.agg [.i r2.2.2.1,.i r2.2.2.2.1,.i a0.end_,v_15,v_13,.i a0.from_,.i a0.to_,v_14,.ms 20 0 r2.2.2.2.2.2.2.2.1.length,.fn 31 [],.ms 21 0 r2.2.2.2.2.2.2.2.2.length]
     let s_5:St:=⟨[(21,b_8),(20,b_7),(1,b_9),(0,.cells 11 [w_6])],22⟩
     refine run_i 20 [(20,17),(21,18)] [2,3] [.sl true [],.bool false] (xs:=[.sl false (([]:List GFrame).map E_GFrame),.bool false]) (S2:=s_5) ?_ (by intro i e; cases e <;> exact Nat.le_of_ble_eq_true rfl) (by kernel_rfl) (by kernel_rfl) (by kernel_rfl) (.k (.s (cleanMap (([]:List GFrame)) _ cl_GFrame)) (.k (.c rfl) .z)) (.k rfl (.cells (.r (cleanMap _ _ cl_GTake))) (.k rfl (.cells (.r (cleanMap _ _ cl_GCLive))) (.k rfl (.cells (.r (cleanMap _ _ cl_GCDesk))) (.k rfl (.cells (.k (.a (.k (.c rfl) (.k (.c rfl) (.k (.c rfl) (.k (.c rfl) (.k (.ms rfl rfl) (.k (.c rfl) (.k (.c rfl) (.k (.c rfl) (.k (.ms rfl rfl) (.k (.c rfl) (.k (.ms rfl rfl) .z)))))))))))) .z)) .z))))
     refine run_t (by kernel_rfl) ?_
     refine thenR ?_
     refine inbR ?_
     refine thenR ?_
     refine ⟨⟨_,rfl⟩,?_⟩
     refine inbR ?_
     refine thenR ?_
     replace h:=Option.some.inj h; subst h
     exact fin_p [21,20,1,0] s_5 (by kernel_rfl) (by kernel_rfl) rfl ⟨rfl,rfl⟩
    ·refine run_cF 18 (c16 31) (c16 34) (decide (r2.2.1 ≠ 0)) hc4 (by kernel_rfl) (by kernel_rfl) ?_
     refine run_k (by kernel_rfl) ?_
     refine thenN ?_
     obtain ⟨hn5,hl1⟩:=needE hl1
     let b_10:Blk:=.cells 3 ((l1_4 ++ [(⟨r2.1.time,r2.1.begin,r2.1.end_⟩:GFrame)]).map E_GFrame)
     let s_6:St:=⟨[(20,b_10),(18,b_8),(17,b_7),(1,b_9),(0,.cells 11 [w_2])],21⟩
     refine run0z [{},{},{},{ k:=1,n:=(l1_4 ++ [(⟨r2.1.time,r2.1.begin,r2.1.end_⟩:GFrame)]).length,l:=(l1_4 ++ [(⟨r2.1.time,r2.1.begin,r2.1.end_⟩:GFrame)]).map E_GFrame }] [0,4,7] [.mp 0 0 0,.ms 20 0 (l1_4 ++ [(⟨r2.1.time,r2.1.begin,r2.1.end_⟩:GFrame)]).length,.i l1_7] s_6 _ (by kernel_rfl) (cjC (@List.cons_ne_nil AV (w_4) []) (cjC (mLe l1_4 E_GFrame) (cjC (hn5) (cjC (lenA l1_4 ([(⟨r2.1.time,r2.1.begin,r2.1.end_⟩:GFrame)]:List GFrame)) (cjC (appA l1_4 ([(⟨r2.1.time,r2.1.begin,r2.1.end_⟩:GFrame)]:List GFrame) E_GFrame) (cj1 (fitsOne (P:=Try.prog) (t:=34) (x:=w_4) (r:=[]) (by kernel_rfl)))))))) ?_
     refine inbN ?_
     refine thenN ?_
     refine run0z [] [0,4,7] [.mp 0 0 0,.ms 20 0 (l1_4 ++ [(⟨r2.1.time,r2.1.begin,r2.1.end_⟩:GFrame)]).length,.i (wr (l1_7 + 1))] s_6 _ (by kernel_rfl) cj0 ?_
     replace hl1:=Option.some.inj hl1; subst hl1
     exact ⟨_,rfl,pi [(4,17),(5,18),(6,20)],mkInto (ks:=[0,4,7]) (ys:=[.mp 0 0 0,.ms 20 0 (l1_4 ++ [(⟨r2.1.time,r2.1.begin,r2.1.end_⟩:GFrame)]).length,.i (wr (l1_7 + 1))]) (by kernel_rfl) (by kernel_rfl) (.k (.mp rfl rfl) (.k (.ms rfl rfl) (.k (.c rfl) .z))) (.k rfl (.cells (.r (cleanMap _ _ cl_GFrame))) (.k rfl (.cells (.r (cleanMap _ _ cl_GTake))) (.k rfl (.cells (.r (cleanMap _ _ cl_GCLive))) (.k rfl (.cells (.r (cleanMap _ _ cl_GCDesk))) (.k rfl (.cells (.k (.a (.k (.c rfl) (.k (.c rfl) (.k (.c rfl) (.k (.c rfl) (.k (.ms rfl rfl) (.k (.c rfl) (.k (.c rfl) (.k (.c rfl) (.k (.ms rfl rfl) (.k (.c rfl) (.k (.ms rfl rfl) .z)))))))))))) .z)) .z)))))⟩
  ·refine run_cF 8 (c16 13) (c16 14) (decide (l1_7 < 20000)) hc1 (by kernel_rfl) (by kernel_rfl) ?_
   replace hl1:=Option.some.inj hl1; subst hl1
   have hr:=rl1 _ rfl
   subst hr
   refine awp_p [] [5,4,1,0] (zipE [] []) ⟨[(5,b_3),(4,b_4),(1,b_5),(0,.cells 11 [w_1])],7⟩ (by kernel_rfl) (?_)
   refine run_e 0 (by kernel_rfl) ?_
   refine thenE ?_
   refine ⟨⟨_,rfl⟩,?_⟩
   refine inbE ?_
   exact kl1 (l1_h0_0,l1_h0_1,l1_h0_3,l1_h0_4,l1_h0_7,l1_h0_8,l1_h0_10) rfl
 ·rintro ⟨l1x_h0_0,l1x_h0_1,l1x_h0_3,l1x_h0_4,l1x_h0_7,l1x_h0_8,l1x_h0_10⟩ rfl
  replace h:=elimL h
  refine thenN ?_
  let v_17:AV:=.ms 1 0 l1x_h0_4.length
  let b_11:Blk:=.cells 5 (l1x_h0_10.map E_GTake)
  let b_12:Blk:=.cells 7 (l1x_h0_8.map E_GCLive)
  let b_13:Blk:=.cells 3 (l1x_h0_4.map E_GCDesk)
  refine run1z (c16 39) [] [2,3] [.sl true [],.bool false] ⟨[(5,b_11),(4,b_12),(1,b_13),(0,.cells 11 [.agg [.i l1x_h0_0,.i l1x_h0_1,.i a0.end_,.bool l1x_h0_3,v_17,.i a0.from_,.i a0.to_,.i l1x_h0_7,.ms 4 0 l1x_h0_8.length,.fn 31 [],.ms 5 0 l1x_h0_10.length]])],7⟩ _ (by kernel_rfl) cj0 ?_
  let w_7:AV:=.agg [.i l1x_h0_0,.i l1x_h0_1,.i a0.end_,.bool l1x_h0_3,v_17,.i a0.from_,.i a0.to_,.i l1x_h0_7,.ms 20 0 l1x_h0_8.length,.fn 31 [],.ms 21 0 l1x_h0_10.length]
  let s_7:St:=⟨[(21,b_11),(20,b_12),(1,b_13),(0,.cells 11 [w_7])],22⟩
  refine run_i 7 [(20,4),(21,5)] [2,3] [.sl true [],.bool false] (xs:=[.sl false (([]:List GFrame).map E_GFrame),.bool false]) (S2:=s_7) ?_ (by intro i e; cases e <;> exact Nat.le_of_ble_eq_true rfl) (by kernel_rfl) (by kernel_rfl) (by kernel_rfl) (.k (.s (cleanMap (([]:List GFrame)) _ cl_GFrame)) (.k (.c rfl) .z)) (.k rfl (.cells (.r (cleanMap _ _ cl_GTake))) (.k rfl (.cells (.r (cleanMap _ _ cl_GCLive))) (.k rfl (.cells (.r (cleanMap _ _ cl_GCDesk))) (.k rfl (.cells (.k (.a (.k (.c rfl) (.k (.c rfl) (.k (.c rfl) (.k (.c rfl) (.k (.ms rfl rfl) (.k (.c rfl) (.k (.c rfl) (.k (.c rfl) (.k (.ms rfl rfl) (.k (.c rfl) (.k (.ms rfl rfl) .z)))))))))))) .z)) .z))))
  refine run_t (by kernel_rfl) ?_
  replace h:=Option.some.inj h; subst h
  exact fin_p [21,20,1,0] s_7 (by kernel_rfl) (by kernel_rfl) rfl ⟨rfl,rfl⟩
end Go.Proofs.Ytpljabnngpnieaa
