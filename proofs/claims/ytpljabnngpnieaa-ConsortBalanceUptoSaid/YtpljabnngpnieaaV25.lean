/-
 Functions of the program as Lean functions,and the walks. Written by a program of ours.
-/
import Derived.Test.YtpljabnngpnieaaV32
import Derived.Test.YtpljabnngpnieaaV13
import Derived.Test.YtpljabnngpnieaaV15
namespace Go.Proofs.Ytpljabnngpnieaa
open Go Go.Am
set_option maxRecDepth 100000
set_option linter.all false
noncomputable def c43 (k:Nat):Code:=nthC (subs (Try.f43.body.getD .skip)) k
def f43 (a0:GCLive) (a1:Int):Option Bool:=some (decide (a0.desk = a1))
theorem f43_ok (a0:GCLive) (a1:Int) (r:Bool) (h:f43 a0 a1 = some r):ACalls Try.prog 43 [E_GCLive a0,.mp 0 0 0] ⟨[(0,.cells 1 [.i a1])],1⟩ (fun y t=>y = .bool r ∧ t = ⟨[(0,.cells 1 [.i a1])],2⟩):=by
 refine run_f 8 [.tmp 3] (c43 0) (zipE [0,1] [E_GCLive a0,.mp 0 0 0]) (by kernel_rfl) (by kernel_rfl) (by kernel_rfl) rfl ?_
 unfold f43 at h
 let b_0:Blk:=.cells 1 [.i a1]
 refine run1z (c43 2) [] [1,2] [.mp 0 0 0,.mp 1 0 0] ⟨[(1,.cells 7 [E_GCLive a0]),(0,b_0)],2⟩ _ (by kernel_rfl) cj0 ?_
 refine run1z (c43 4) [] [3] [.bool (decide (a0.desk = a1))] ⟨[(0,b_0)],2⟩ _ (by kernel_rfl) cj0 ?_
 refine run_t (by kernel_rfl) ?_
 replace h:=Option.some.inj h; subst h
 exact fin_p [0] ⟨[(0,b_0)],2⟩ (by kernel_rfl) (by kernel_rfl) rfl ⟨rfl,rfl⟩
def f58_2 (a0:GCPlayer) (a1_0:Int):Option (List GCLive × List GCLive):=(loopN (σ:=(List GCLive × List GCLive × Int)) (τ:=(List GCLive × List GCLive)) (fun ((l1_4,l1_5,l1_13):(List GCLive × List GCLive × Int))=>bif (decide (l1_13 < (a0.sounding.l.length:Int))) then ((((ix a0.sounding.l l1_13).bind fun y2=>(f43 y2 a1_0).bind fun r3=>bif r3 then (need (l1_4.length + 1 ≤ maxElems) <| some ((l1_4 ++ [y2]),l1_5)) else (need (l1_5.length + 1 ≤ maxElems) <| some (l1_4,(l1_5 ++ [y2])))):Option (List GCLive × List GCLive)).bind fun ((j2_4,j2_5):(List GCLive × List GCLive))=>some (.inl (j2_4,j2_5,(wr (l1_13 + 1))))) else (some (.inr (l1_4,l1_5)))) FUEL (([]:List GCLive),([]:List GCLive),0)).bind fun ((l1x_4,l1x_5):(List GCLive × List GCLive))=>some (l1x_4,l1x_5)
theorem f58_2_ok (a0:GCPlayer) (a1_0:Int) (r:(List GCLive × List GCLive)) (h:f58_2 a0 a1_0 = some r):ACalls Try.prog 58 [.mp 0 0 8,.fn 43 [.mp 4 0 0]] ⟨[(4,.cells 1 [.i a1_0]),(3,.cells 5 (a0.takes.map E_GTake)),(2,.cells 7 (a0.sounding.l.map E_GCLive)),(1,.cells 3 (a0.desks.map E_GCDesk)),(0,.cells 11 [.agg [.i a0.clock.ticks,.i a0.now,.i a0.end_,.bool a0.waiting,.ms 1 0 a0.desks.length,.i a0.from_,.i a0.to_,.i a0.times,.ms 2 0 a0.sounding.l.length,.fn 31 [],.ms 3 0 a0.takes.length]])],5⟩ (fun y t=>y = .sl false (r.1.map E_GCLive) ∧ t = ⟨[(6,.cells 7 (r.2.map E_GCLive)),(4,.cells 1 [.i a1_0]),(3,.cells 5 (a0.takes.map E_GTake)),(1,.cells 3 (a0.desks.map E_GCDesk)),(0,.cells 11 [.agg [.i a0.clock.ticks,.i a0.now,.i a0.end_,.bool a0.waiting,.ms 1 0 a0.desks.length,.i a0.from_,.i a0.to_,.i a0.times,.ms 6 0 r.2.length,.fn 31 [],.ms 3 0 a0.takes.length]])],7⟩):=by
 let w_0:AV:=.fn 43 [.mp 4 0 0]
 refine run_f 34 [.tmp 4] (c58 0) (zipE [0,1] [.mp 0 0 8,w_0]) (by kernel_rfl) (by kernel_rfl) (by kernel_rfl) rfl ?_
 unfold f58_2 at h
 let v_0:AV:=.ms 2 0 a0.sounding.l.length
 let v_1:AV:=.ms 1 0 a0.desks.length
 let v_2:AV:=.ms 3 0 a0.takes.length
 let v_3:AV:=.i a0.clock.ticks
 let v_4:AV:=.bool a0.waiting
 let w_1:AV:=.agg [v_3,.i a0.now,.i a0.end_,v_4,v_1,.i a0.from_,.i a0.to_,.i a0.times,v_0,.fn 31 [],v_2]
 let b_0:Blk:=.cells 7 (a0.sounding.l.map E_GCLive)
 let b_1:Blk:=.cells 3 (a0.desks.map E_GCDesk)
 let b_2:Blk:=.cells 5 (a0.takes.map E_GTake)
 let b_3:Blk:=.cells 1 [.i a1_0]
 let s_0:St:=⟨[(4,b_3),(3,b_2),(2,b_0),(1,b_1),(0,.cells 11 [w_1])],5⟩
 refine run1z (c58 2) [] [0,1,4] [.mp 0 0 8,w_0,.sl true []] s_0 _ (by kernel_rfl) cj0 ?_
 refine run1z (c58 4) [] [0,1,4,5] [.mp 0 0 8,w_0,.sl true [],.sl true []] s_0 _ (by kernel_rfl) cj0 ?_
 refine run_s (c58 5) (c58 25) (by kernel_rfl) ?_
 let v_5:AV:=.i (a0.sounding.l.length:Int)
 refine run1z (c58 7) [] [0,1,4,5,11,12,13] [.mp 0 0 8,w_0,.sl true [],.sl true [],v_0,v_5,.i 0] s_0 _ (by kernel_rfl) cj0 ?_
 obtain ⟨ol1x,hll1x,h⟩:=bindE h
 refine run_tq (fun ((l1x_4,l1x_5):(List GCLive × List GCLive))=>(zipE [0,4,5] [.mp 0 0 8,.ms 5 0 l1x_4.length,.ms 6 0 l1x_5.length])) (fun ((l1x_4,l1x_5):(List GCLive × List GCLive))=>⟨[(6,.cells 7 (l1x_5.map E_GCLive)),(5,.cells 7 (l1x_4.map E_GCLive)),(4,b_3),(3,b_2),(2,b_0),(1,b_1),(0,.cells 11 [w_1])],7⟩) (fun j=>ol1x = j) (fun kl1=>?_) ?_
 ·refine run_b 0 (c58 8) (by kernel_rfl) ?_
  refine run_l (c58 9) _ hll1x (fun ((l1_4,l1_5,l1_13):(List GCLive × List GCLive × Int))=>(zipE [0,1,4,5,11,12,13] [.mp 0 0 8,w_0,.ms 5 0 l1_4.length,.ms 6 0 l1_5.length,v_0,v_5,.i l1_13])) (fun ((l1_4,l1_5,l1_13):(List GCLive × List GCLive × Int))=>⟨[(6,.cells 7 (l1_5.map E_GCLive)),(5,.cells 7 (l1_4.map E_GCLive)),(4,b_3),(3,b_2),(2,b_0),(1,b_1),(0,.cells 11 [w_1])],7⟩) [(5,1000000),(6,1000001)] (by intro i e; cases e <;> exact Nat.le_of_ble_eq_true rfl) (by kernel_rfl) (mkInto (ks:=[0,1,4,5,11,12,13]) (ys:=[.mp 0 0 8,w_0,.sl true [],.sl true [],v_0,v_5,.i 0]) (by kernel_rfl) (by kernel_rfl) (.k (.mp rfl rfl) (.k (.f (.k (.mp rfl rfl) .z)) (.k (.n) (.k (.n) (.k (.ms rfl rfl) (.k (.c rfl) (.k (.c rfl) .z))))))) (.n rfl rfl rfl (.n rfl rfl rfl (.k rfl (.cells (.k (.c rfl) .z)) (.k rfl (.cells (.r (cleanMap _ _ cl_GTake))) (.k rfl (.cells (.r (cleanMap _ _ cl_GCLive))) (.k rfl (.cells (.r (cleanMap _ _ cl_GCDesk))) (.k rfl (.cells (.k (.a (.k (.c rfl) (.k (.c rfl) (.k (.c rfl) (.k (.c rfl) (.k (.ms rfl rfl) (.k (.c rfl) (.k (.c rfl) (.k (.c rfl) (.k (.ms rfl rfl) (.k (.c rfl) (.k (.ms rfl rfl) .z)))))))))))) .z)) .z)))))))) ?_
  rintro ⟨l1_4,l1_5,l1_13⟩ out hl1 rl1
  let v_6:AV:=.ms 5 0 l1_4.length
  let v_7:AV:=.ms 6 0 l1_5.length
  let b_4:Blk:=.cells 7 (l1_5.map E_GCLive)
  let b_5:Blk:=.cells 7 (l1_4.map E_GCLive)
  let s_1:St:=⟨[(6,b_4),(5,b_5),(4,b_3),(3,b_2),(2,b_0),(1,b_1),(0,.cells 11 [w_1])],7⟩
  refine run1z (c58 11) [] [0,1,4,5,11,12,13,14] [.mp 0 0 8,w_0,v_6,v_7,v_0,v_5,.i l1_13,.bool (decide (l1_13 < (a0.sounding.l.length:Int)))] s_1 _ (by kernel_rfl) cj0 ?_
  refine run_s (c58 12) (c58 15) (by kernel_rfl) ?_
  rcases iteE hl1 with ⟨hc1,hl1⟩ | ⟨hc1,hl1⟩
  ·refine run_cT 14 (c58 13) (c58 14) (decide (l1_13 < (a0.sounding.l.length:Int))) hc1 (by kernel_rfl) (by kernel_rfl) ?_
   refine run_k (by kernel_rfl) ?_
   refine thenN ?_
   obtain ⟨oj2,hj2,hl1⟩:=bindE hl1
   refine run_jq (c58 16) (c58 24) (fun ((j2_4,j2_5):(List GCLive × List GCLive))=>(zipE [0,1,4,5,11,12,13] [.mp 0 0 8,w_0,.ms 10 0 j2_4.length,.ms 11 0 j2_5.length,v_0,v_5,.i l1_13])) (fun ((j2_4,j2_5):(List GCLive × List GCLive))=>⟨[(11,.cells 7 (j2_5.map E_GCLive)),(10,.cells 7 (j2_4.map E_GCLive)),(4,b_3),(3,b_2),(2,b_0),(1,b_1),(0,.cells 11 [w_1])],12⟩) (fun j=>oj2 = j) (by kernel_rfl) (fun kj2=>?_) ?_
   ·refine run_b 1 (c58 17) (by kernel_rfl) ?_
    obtain ⟨y2,hy2,hj2⟩:=bindE hj2
    let b_6:Blk:=.cells 7 [E_GCLive y2]
    let s_2:St:=⟨[(7,b_6),(6,b_4),(5,b_5),(4,b_3),(3,b_2),(2,b_0),(1,b_1),(0,.cells 11 [w_1])],8⟩
    refine run1z (c58 19) [{ k:=1,n:=l1_13.toNat },{ k:=1,x:=E_GCLive y2 }] [0,1,4,5,7,11,12,13] [.mp 0 0 8,w_0,v_6,v_7,.mp 7 0 0,v_0,v_5,.i l1_13] s_2 _ (by kernel_rfl) (cjC ((ixE hy2).1) (cjC (ixLt hy2) (cjC (Nat.zero_add l1_13.toNat) (cj1 (mapGet E_GCLive (ixE hy2).2))))) ?_
    obtain ⟨r3,hr3,hj2⟩:=bindE hj2
    let s_3:St:=⟨[(7,b_6),(6,b_4),(5,b_5),(4,b_3),(3,b_2),(2,b_0),(1,b_1),(0,.cells 11 [w_1])],9⟩
    refine run1z (c58 21) [{},{},{ c:=some (.bool r3,s_3) }] [0,1,4,5,7,11,12,13,19] [.mp 0 0 8,w_0,v_6,v_7,.mp 7 0 0,v_0,v_5,.i l1_13,.bool r3] s_3 _ (by kernel_rfl) (cj1 (callF (f43_ok y2 a1_0 _ hr3) [(0,4)] [(4,0)] [7,6,5,3,2,1,0] [E_GCLive y2,.mp 4 0 0] s_2 (.bool r3) s_3 (by kernel_rfl) (.k (.c (cl_GCLive y2)) (.k (.mp rfl rfl) .z)) (.c rfl) (.k rfl (.cells (.k (.c rfl) .z)) .z) (.f rfl (by kernel_rfl) (.f rfl (by kernel_rfl) (.f rfl (by kernel_rfl) (.d (x':=b_3) rfl (by kernel_rfl) (.cells (.k (.c rfl) .z)) (.f rfl (by kernel_rfl) (.f rfl (by kernel_rfl) (.f rfl (by kernel_rfl) (.f rfl (by kernel_rfl) .z)))))))))) ?_
    rcases iteE hj2 with ⟨hc4,hj2⟩ | ⟨hc4,hj2⟩
    ·refine run_cT 19 (c58 22) (c58 23) r3 hc4 (by kernel_rfl) (by kernel_rfl) ?_
     obtain ⟨hn5,hj2⟩:=needE hj2
     refine run0z [{},{},{},{ k:=1,n:=(l1_4 ++ [y2]).length,l:=(l1_4 ++ [y2]).map E_GCLive }] [0,1,4,5,11,12,13] [.mp 0 0 8,w_0,.ms 9 0 (l1_4 ++ [y2]).length,v_7,v_0,v_5,.i l1_13] ⟨[(9,.cells 7 ((l1_4 ++ [y2]).map E_GCLive)),(6,b_4),(4,b_3),(3,b_2),(2,b_0),(1,b_1),(0,.cells 11 [w_1])],10⟩ _ (by kernel_rfl) (cjC (@List.cons_ne_nil AV (E_GCLive y2) []) (cjC (mLe l1_4 E_GCLive) (cjC (hn5) (cjC (lenA l1_4 ([y2]:List GCLive)) (cjC (appA l1_4 ([y2]:List GCLive) E_GCLive) (cj1 (fitsOne (P:=Try.prog) (t:=80) (x:=E_GCLive y2) (r:=[]) (by kernel_rfl)))))))) ?_
     replace hj2:=Option.some.inj hj2; subst hj2
     refine inbN ?_
     refine thenN ?_
     exact run_i 10 [(10,9),(11,6)] [0,1,4,5,11,12,13] [.mp 0 0 8,w_0,.ms 9 0 (l1_4 ++ [y2]).length,v_7,v_0,v_5,.i l1_13] (kj2 ((l1_4 ++ [y2]),l1_5) rfl) (by intro i e; cases e <;> exact Nat.le_of_ble_eq_true rfl) (by kernel_rfl) (by kernel_rfl) (by kernel_rfl) (.k (.mp rfl rfl) (.k (.f (.k (.mp rfl rfl) .z)) (.k (.ms rfl rfl) (.k (.ms rfl rfl) (.k (.ms rfl rfl) (.k (.c rfl) (.k (.c rfl) .z))))))) (.k rfl (.cells (.r (cleanMap _ _ cl_GCLive))) (.k rfl (.cells (.r (cleanMap _ _ cl_GCLive))) (.k rfl (.cells (.k (.c rfl) .z)) (.k rfl (.cells (.r (cleanMap _ _ cl_GTake))) (.k rfl (.cells (.r (cleanMap _ _ cl_GCLive))) (.k rfl (.cells (.r (cleanMap _ _ cl_GCDesk))) (.k rfl (.cells (.k (.a (.k (.c rfl) (.k (.c rfl) (.k (.c rfl) (.k (.c rfl) (.k (.ms rfl rfl) (.k (.c rfl) (.k (.c rfl) (.k (.c rfl) (.k (.ms rfl rfl) (.k (.c rfl) (.k (.ms rfl rfl) .z)))))))))))) .z)) .z)))))))
    ·refine run_cF 19 (c58 22) (c58 23) r3 hc4 (by kernel_rfl) (by kernel_rfl) ?_
     obtain ⟨hn6,hj2⟩:=needE hj2
     refine run0z [{},{},{},{ k:=1,n:=(l1_5 ++ [y2]).length,l:=(l1_5 ++ [y2]).map E_GCLive }] [0,1,4,5,11,12,13] [.mp 0 0 8,w_0,v_6,.ms 9 0 (l1_5 ++ [y2]).length,v_0,v_5,.i l1_13] ⟨[(9,.cells 7 ((l1_5 ++ [y2]).map E_GCLive)),(5,b_5),(4,b_3),(3,b_2),(2,b_0),(1,b_1),(0,.cells 11 [w_1])],10⟩ _ (by kernel_rfl) (cjC (@List.cons_ne_nil AV (E_GCLive y2) []) (cjC (mLe l1_5 E_GCLive) (cjC (hn6) (cjC (lenA l1_5 ([y2]:List GCLive)) (cjC (appA l1_5 ([y2]:List GCLive) E_GCLive) (cj1 (fitsOne (P:=Try.prog) (t:=80) (x:=E_GCLive y2) (r:=[]) (by kernel_rfl)))))))) ?_
     replace hj2:=Option.some.inj hj2; subst hj2
     refine inbN ?_
     refine thenN ?_
     exact run_i 10 [(10,5),(11,9)] [0,1,4,5,11,12,13] [.mp 0 0 8,w_0,v_6,.ms 9 0 (l1_5 ++ [y2]).length,v_0,v_5,.i l1_13] (kj2 (l1_4,(l1_5 ++ [y2])) rfl) (by intro i e; cases e <;> exact Nat.le_of_ble_eq_true rfl) (by kernel_rfl) (by kernel_rfl) (by kernel_rfl) (.k (.mp rfl rfl) (.k (.f (.k (.mp rfl rfl) .z)) (.k (.ms rfl rfl) (.k (.ms rfl rfl) (.k (.ms rfl rfl) (.k (.c rfl) (.k (.c rfl) .z))))))) (.k rfl (.cells (.r (cleanMap _ _ cl_GCLive))) (.k rfl (.cells (.r (cleanMap _ _ cl_GCLive))) (.k rfl (.cells (.k (.c rfl) .z)) (.k rfl (.cells (.r (cleanMap _ _ cl_GTake))) (.k rfl (.cells (.r (cleanMap _ _ cl_GCLive))) (.k rfl (.cells (.r (cleanMap _ _ cl_GCDesk))) (.k rfl (.cells (.k (.a (.k (.c rfl) (.k (.c rfl) (.k (.c rfl) (.k (.c rfl) (.k (.ms rfl rfl) (.k (.c rfl) (.k (.c rfl) (.k (.c rfl) (.k (.ms rfl rfl) (.k (.c rfl) (.k (.ms rfl rfl) .z)))))))))))) .z)) .z)))))))
   ·rintro ⟨j2_4,j2_5⟩ rfl
    refine run0z [] [0,1,4,5,11,12,13] [.mp 0 0 8,w_0,.ms 10 0 j2_4.length,.ms 11 0 j2_5.length,v_0,v_5,.i (wr (l1_13 + 1))] ⟨[(11,.cells 7 (j2_5.map E_GCLive)),(10,.cells 7 (j2_4.map E_GCLive)),(4,b_3),(3,b_2),(2,b_0),(1,b_1),(0,.cells 11 [w_1])],12⟩ _ (by kernel_rfl) cj0 ?_
    replace hl1:=Option.some.inj hl1; subst hl1
    exact ⟨_,rfl,pi [(5,10),(6,11)],mkInto (ks:=[0,1,4,5,11,12,13]) (ys:=[.mp 0 0 8,w_0,.ms 10 0 j2_4.length,.ms 11 0 j2_5.length,v_0,v_5,.i (wr (l1_13 + 1))]) (by kernel_rfl) (by kernel_rfl) (.k (.mp rfl rfl) (.k (.f (.k (.mp rfl rfl) .z)) (.k (.ms rfl rfl) (.k (.ms rfl rfl) (.k (.ms rfl rfl) (.k (.c rfl) (.k (.c rfl) .z))))))) (.k rfl (.cells (.r (cleanMap _ _ cl_GCLive))) (.k rfl (.cells (.r (cleanMap _ _ cl_GCLive))) (.k rfl (.cells (.k (.c rfl) .z)) (.k rfl (.cells (.r (cleanMap _ _ cl_GTake))) (.k rfl (.cells (.r (cleanMap _ _ cl_GCLive))) (.k rfl (.cells (.r (cleanMap _ _ cl_GCDesk))) (.k rfl (.cells (.k (.a (.k (.c rfl) (.k (.c rfl) (.k (.c rfl) (.k (.c rfl) (.k (.ms rfl rfl) (.k (.c rfl) (.k (.c rfl) (.k (.c rfl) (.k (.ms rfl rfl) (.k (.c rfl) (.k (.ms rfl rfl) .z)))))))))))) .z)) .z)))))))⟩
  ·refine run_cF 14 (c58 13) (c58 14) (decide (l1_13 < (a0.sounding.l.length:Int))) hc1 (by kernel_rfl) (by kernel_rfl) ?_
   replace hl1:=Option.some.inj hl1; subst hl1
   have hr:=rl1 _ rfl
   subst hr
   refine awp_p [0,4,5] [6,5,4,3,2,1,0] (zipE [0,4,5] [.mp 0 0 8,v_6,v_7]) s_1 (by kernel_rfl) (?_)
   refine run_e 0 (by kernel_rfl) ?_
   refine thenE ?_
   refine ⟨⟨_,rfl⟩,?_⟩
   refine inbE ?_
   exact kl1 (l1_4,l1_5) rfl
 ·rintro ⟨l1x_4,l1x_5⟩ rfl
  refine thenN ?_
  let v_8:AV:=.ms 5 0 l1x_4.length
  let v_9:AV:=.ms 6 0 l1x_5.length
  let w_2:AV:=.agg [v_3,.i a0.now,.i a0.end_,v_4,v_1,.i a0.from_,.i a0.to_,.i a0.times,v_9,.fn 31 [],v_2]
  let b_7:Blk:=.cells 7 (l1x_5.map E_GCLive)
  let b_8:Blk:=.cells 7 (l1x_4.map E_GCLive)
  let s_4:St:=⟨[(6,b_7),(5,b_8),(4,b_3),(3,b_2),(1,b_1),(0,.cells 11 [w_2])],7⟩
  refine run1z (c58 27) [] [4] [v_8] s_4 _ (by kernel_rfl) cj0 ?_
  refine run1z (c58 29) [] [4] [v_8] s_4 _ (by kernel_rfl) cj0 ?_
  let s_5:St:=⟨[(6,b_7),(4,b_3),(3,b_2),(1,b_1),(0,.cells 11 [w_2])],7⟩
  refine run_z 5 7 (l1x_4.map E_GCLive) [4] [v_8] (xs:=[.sl false (l1x_4.map E_GCLive)]) (S2:=s_5) ?_ (by kernel_rfl) (by kernel_rfl) (.k (.m (mLe l1x_4 E_GCLive) (mapAll l1x_4 E_GCLive)) .z) (.k (x':=b_7) rfl (by kernel_rfl) (.r _) (.k (x':=b_3) rfl (by kernel_rfl) (.r _) (.k (x':=b_2) rfl (by kernel_rfl) (.r _) (.k (x':=b_1) rfl (by kernel_rfl) (.r _) (.k (x':=.cells 11 [w_2]) rfl (by kernel_rfl) (.r _) .z))))) rfl rfl
  refine run_t (by kernel_rfl) ?_
  replace h:=Option.some.inj h; subst h
  exact fin_p [6,4,3,1,0] s_5 (by kernel_rfl) (by kernel_rfl) rfl ⟨rfl,rfl⟩
def f35_2 (a0:GCPlayer) (a1_0:Int):Option (List GVoice × List GCLive × List GTake):=(f58_2 a0 a1_0).bind fun r1=>(loopN (σ:=(List GTake × Int)) (τ:=(List GTake)) (fun ((l1_h0_10,l1_15):(List GTake × Int))=>bif (decide (l1_15 < (r1.1.length:Int))) then ((ix r1.1 l1_15).bind fun y3=>need (l1_h0_10.length + 1 ≤ maxElems) <| some (.inl ((l1_h0_10 ++ [(⟨y3.desk,y3.note.course,y3.note.pitch,y3.began,a0.clock.ticks⟩:GTake)]),(wr (l1_15 + 1))))) else (some (.inr l1_h0_10))) FUEL (a0.takes,0)).bind fun (l1x_h0_10:(List GTake))=>(f42 r1.1).bind fun r5=>some (r5,r1.2,l1x_h0_10)
theorem f35_2_ok (a0:GCPlayer) (a1_0:Int) (r:(List GVoice × List GCLive × List GTake)) (h:f35_2 a0 a1_0 = some r):ACalls Try.prog 35 [.mp 0 0 0,.fn 43 [.mp 4 0 0]] ⟨[(4,.cells 1 [.i a1_0]),(3,.cells 5 (a0.takes.map E_GTake)),(2,.cells 7 (a0.sounding.l.map E_GCLive)),(1,.cells 3 (a0.desks.map E_GCDesk)),(0,.cells 11 [.agg [.i a0.clock.ticks,.i a0.now,.i a0.end_,.bool a0.waiting,.ms 1 0 a0.desks.length,.i a0.from_,.i a0.to_,.i a0.times,.ms 2 0 a0.sounding.l.length,.fn 31 [],.ms 3 0 a0.takes.length]])],5⟩ (fun y t=>y = .sl false (r.1.map E_GVoice) ∧ t = ⟨[(7,.cells 5 (r.2.2.map E_GTake)),(6,.cells 7 (r.2.1.map E_GCLive)),(4,.cells 1 [.i a1_0]),(1,.cells 3 (a0.desks.map E_GCDesk)),(0,.cells 11 [.agg [.i a0.clock.ticks,.i a0.now,.i a0.end_,.bool a0.waiting,.ms 1 0 a0.desks.length,.i a0.from_,.i a0.to_,.i a0.times,.ms 6 0 r.2.1.length,.fn 31 [],.ms 7 0 r.2.2.length]])],8⟩):=by
 let w_0:AV:=.fn 43 [.mp 4 0 0]
 refine run_f 47 [.tmp 4] (c35 0) (zipE [0,1] [.mp 0 0 0,w_0]) (by kernel_rfl) (by kernel_rfl) (by kernel_rfl) rfl ?_
 unfold f35_2 at h
 let v_0:AV:=.ms 2 0 a0.sounding.l.length
 let v_1:AV:=.ms 1 0 a0.desks.length
 let v_2:AV:=.ms 3 0 a0.takes.length
 let v_3:AV:=.i a0.clock.ticks
 let v_4:AV:=.bool a0.waiting
 let w_1:AV:=.agg [v_3,.i a0.now,.i a0.end_,v_4,v_1,.i a0.from_,.i a0.to_,.i a0.times,v_0,.fn 31 [],v_2]
 let b_0:Blk:=.cells 7 (a0.sounding.l.map E_GCLive)
 let b_1:Blk:=.cells 3 (a0.desks.map E_GCDesk)
 let b_2:Blk:=.cells 5 (a0.takes.map E_GTake)
 let b_3:Blk:=.cells 1 [.i a1_0]
 let s_0:St:=⟨[(4,b_3),(3,b_2),(2,b_0),(1,b_1),(0,.cells 11 [w_1])],5⟩
 refine run1z (c35 2) [] [0,1] [.mp 0 0 0,w_0] s_0 _ (by kernel_rfl) cj0 ?_
 obtain ⟨r1,hr1,h⟩:=bindE h
 let v_5:AV:=.sl false (r1.1.map E_GCLive)
 let v_6:AV:=.ms 6 0 r1.2.length
 let w_2:AV:=.agg [v_3,.i a0.now,.i a0.end_,v_4,v_1,.i a0.from_,.i a0.to_,.i a0.times,v_6,.fn 31 [],v_2]
 let b_4:Blk:=.cells 7 (r1.2.map E_GCLive)
 let s_1:St:=⟨[(6,b_4),(4,b_3),(3,b_2),(1,b_1),(0,.cells 11 [w_2])],7⟩
 refine run1z (c35 4) [{},{},{},{},{ c:=some (v_5,s_1) }] [0,5] [.mp 0 0 0,v_5] s_1 _ (by kernel_rfl) (cj1 (callF (f58_2_ok a0 a1_0 _ hr1) [(0,0),(1,1),(2,2),(3,3),(4,4)] [(6,6),(4,4),(3,3),(1,1),(0,0)] [] [.mp 0 0 8,w_0] s_0 (v_5) s_1 (by kernel_rfl) (.k (.mp rfl rfl) (.k (.f (.k (.mp rfl rfl) .z)) .z)) (.c (cleanMap _ _ cl_GCLive)) (.k rfl (.cells (.k (.c rfl) .z)) (.k rfl (.cells (.r (cleanMap _ _ cl_GTake))) (.k rfl (.cells (.r (cleanMap _ _ cl_GCLive))) (.k rfl (.cells (.r (cleanMap _ _ cl_GCDesk))) (.k rfl (.cells (.k (.a (.k (.c rfl) (.k (.c rfl) (.k (.c rfl) (.k (.c rfl) (.k (.ms rfl rfl) (.k (.c rfl) (.k (.c rfl) (.k (.c rfl) (.k (.ms rfl rfl) (.k (.c rfl) (.k (.ms rfl rfl) .z)))))))))))) .z)) .z))))) (.d (x':=b_4) rfl (by kernel_rfl) (.cells (.r (cleanMap _ _ cl_GCLive))) (.d (x':=b_3) rfl (by kernel_rfl) (.cells (.k (.c rfl) .z)) (.d (x':=b_2) rfl (by kernel_rfl) (.cells (.r (cleanMap _ _ cl_GTake))) (.d (x':=b_1) rfl (by kernel_rfl) (.cells (.r (cleanMap _ _ cl_GCDesk))) (.d (x':=.cells 11 [w_2]) rfl (by kernel_rfl) (.cells (.k (.a (.k (.c rfl) (.k (.c rfl) (.k (.c rfl) (.k (.c rfl) (.k (.ms rfl rfl) (.k (.c rfl) (.k (.c rfl) (.k (.c rfl) (.k (.ms rfl rfl) (.k (.c rfl) (.k (.ms rfl rfl) .z)))))))))))) .z)) .z))))))) ?_
 refine run_s (c35 5) (c35 21) (by kernel_rfl) ?_
 let v_7:AV:=.i (r1.1.length:Int)
 refine run1z (c35 7) [{},{ k:=1,n:=r1.1.length }] [0,5,13,14,15] [.mp 0 0 0,v_5,v_5,v_7,.i 0] s_1 _ (by kernel_rfl) (cj1 (mapLen r1.1 E_GCLive)) ?_
 obtain ⟨l1x_h0_10,hll1x,h⟩:=bindE h
 refine run_tq (fun (l1x_h0_10:(List GTake))=>(zipE [5] [v_5])) (fun (l1x_h0_10:(List GTake))=>⟨[(7,.cells 5 (l1x_h0_10.map E_GTake)),(6,b_4),(4,b_3),(1,b_1),(0,.cells 11 [.agg [v_3,.i a0.now,.i a0.end_,v_4,v_1,.i a0.from_,.i a0.to_,.i a0.times,v_6,.fn 31 [],.ms 7 0 l1x_h0_10.length]])],8⟩) (fun j=>l1x_h0_10 = j) (fun kl1=>?_) ?_
 ·refine run_b 0 (c35 8) (by kernel_rfl) ?_
  refine run_l (c35 9) _ hll1x (fun ((l1_h0_10,l1_15):(List GTake × Int))=>(zipE [0,5,13,14,15] [.mp 0 0 0,v_5,v_5,v_7,.i l1_15])) (fun ((l1_h0_10,l1_15):(List GTake × Int))=>⟨[(7,.cells 5 (l1_h0_10.map E_GTake)),(6,b_4),(4,b_3),(1,b_1),(0,.cells 11 [.agg [v_3,.i a0.now,.i a0.end_,v_4,v_1,.i a0.from_,.i a0.to_,.i a0.times,v_6,.fn 31 [],.ms 7 0 l1_h0_10.length]])],8⟩) [(7,3)] (by intro i e; cases e <;> exact Nat.le_of_ble_eq_true rfl) (by kernel_rfl) (mkInto (ks:=[0,5,13,14,15]) (ys:=[.mp 0 0 0,v_5,v_5,v_7,.i 0]) (by kernel_rfl) (by kernel_rfl) (.k (.mp rfl rfl) (.k (.c (cleanMap _ _ cl_GCLive)) (.k (.c (cleanMap _ _ cl_GCLive)) (.k (.c rfl) (.k (.c rfl) .z))))) (.k rfl (.cells (.r (cleanMap _ _ cl_GTake))) (.k rfl (.cells (.r (cleanMap _ _ cl_GCLive))) (.k rfl (.cells (.k (.c rfl) .z)) (.k rfl (.cells (.r (cleanMap _ _ cl_GCDesk))) (.k rfl (.cells (.k (.a (.k (.c rfl) (.k (.c rfl) (.k (.c rfl) (.k (.c rfl) (.k (.ms rfl rfl) (.k (.c rfl) (.k (.c rfl) (.k (.c rfl) (.k (.ms rfl rfl) (.k (.c rfl) (.k (.ms rfl rfl) .z)))))))))))) .z)) .z)))))) ?_
  rintro ⟨l1_h0_10,l1_15⟩ out hl1 rl1
  let v_8:AV:=.ms 7 0 l1_h0_10.length
  let w_3:AV:=.agg [v_3,.i a0.now,.i a0.end_,v_4,v_1,.i a0.from_,.i a0.to_,.i a0.times,v_6,.fn 31 [],v_8]
  let b_5:Blk:=.cells 5 (l1_h0_10.map E_GTake)
  let s_2:St:=⟨[(7,b_5),(6,b_4),(4,b_3),(1,b_1),(0,.cells 11 [w_3])],8⟩
  refine run1z (c35 11) [] [0,5,13,14,15,16] [.mp 0 0 0,v_5,v_5,v_7,.i l1_15,.bool (decide (l1_15 < (r1.1.length:Int)))] s_2 _ (by kernel_rfl) cj0 ?_
  refine run_s (c35 12) (c35 15) (by kernel_rfl) ?_
  rcases iteE hl1 with ⟨hc2,hl1⟩ | ⟨hc2,hl1⟩
  ·refine run_cT 16 (c35 13) (c35 14) (decide (l1_15 < (r1.1.length:Int))) hc2 (by kernel_rfl) (by kernel_rfl) ?_
   refine run_k (by kernel_rfl) ?_
   refine thenN ?_
   refine run_s (c35 16) (c35 20) (by kernel_rfl) ?_
   refine run_b 1 (c35 17) (by kernel_rfl) ?_
   obtain ⟨y3,hy3,hl1⟩:=bindE hl1
   refine run1z (c35 19) [{ k:=1,x:=E_GCLive y3 }] [0,5,7,13,14,15] [.mp 0 0 0,v_5,.mp 8 0 0,v_5,v_7,.i l1_15] ⟨[(8,.cells 7 [E_GCLive y3]),(7,b_5),(6,b_4),(4,b_3),(1,b_1),(0,.cells 11 [w_3])],9⟩ _ (by kernel_rfl) (cjC ((ixE hy3).1) (cj1 (mapGet E_GCLive (ixE hy3).2))) ?_
   obtain ⟨hn4,hl1⟩:=needE hl1
   let w_4:AV:=.agg [v_3,.i a0.now,.i a0.end_,v_4,v_1,.i a0.from_,.i a0.to_,.i a0.times,v_6,.fn 31 [],.ms 9 0 (l1_h0_10 ++ [(⟨y3.desk,y3.note.course,y3.note.pitch,y3.began,a0.clock.ticks⟩:GTake)]).length]
   let w_5:AV:=.agg [.i y3.desk,.i y3.note.course,.i y3.note.pitch,.i y3.began,v_3]
   let b_6:Blk:=.cells 5 ((l1_h0_10 ++ [(⟨y3.desk,y3.note.course,y3.note.pitch,y3.began,a0.clock.ticks⟩:GTake)]).map E_GTake)
   let s_3:St:=⟨[(9,b_6),(6,b_4),(4,b_3),(1,b_1),(0,.cells 11 [w_4])],10⟩
   refine yun0z [[],[],[1],[1,2],[1,2,3],[],[5],[],[7],[7,8],[],[10],[10,11],[],[13],[],[15],[15,16],[15,16,17],[15,16,17,18],[5,6,7,8,9,10,11,12,13,14,15,16,17,18,19],[5,6,7,8,9,10,11,12,13,14,15,16,17,18,19,20],[1,2,3,4,5,6,7,8,9,10,11,12,13,14,15,16,17,18,19,20,21],[0,1,2,3,4,5,6,7,8,9,10,11,12,13,14,15,16,17,18,19,20,21,22],[0,1,2,3,4,5,6,7,8,9,10,11,12,13,14,15,16,17,18,19,20,21,22,23],[0,1,2,3,4,5,6,7,8,9,10,11,12,13,14,15,16,17,18,19,20,21,22,23,24]] [.light 0 false,.light 1 false,.light 2 false,.light 3 false,.light 4 false,.light 5 false,.light 6 false,.light 7 false,.light 8 false,.light 9 false,.light 10 false,.light 11 false,.light 12 false,.light 13 false,.light 14 false,.light 15 false,.light 16 false,.light 17 false,.light 18 false,.light 19 false,.light 20 false,.light 21 false,.heavy 22 [],.light 23 false,.light 24 false,.heavy 25 []] [{},{},{},{},{},{},{},{},{},{},{},{},{},{},{},{},{},{},{},{},{},{},{ k:=1,n:=(l1_h0_10 ++ [(⟨y3.desk,y3.note.course,y3.note.pitch,y3.began,a0.clock.ticks⟩:GTake)]).length,l:=(l1_h0_10 ++ [(⟨y3.desk,y3.note.course,y3.note.pitch,y3.began,a0.clock.ticks⟩:GTake)]).map E_GTake }] [0,5,13,14,15] [.mp 0 0 0,v_5,v_5,v_7,.i l1_15] s_3 _ (by kernel_rfl) (cjC (@List.cons_ne_nil AV (w_5) []) (cjC (mLe l1_h0_10 E_GTake) (cjC (hn4) (cjC (lenA l1_h0_10 ([(⟨y3.desk,y3.note.course,y3.note.pitch,y3.began,a0.clock.ticks⟩:GTake)]:List GTake)) (cjC (appA l1_h0_10 ([(⟨y3.desk,y3.note.course,y3.note.pitch,y3.began,a0.clock.ticks⟩:GTake)]:List GTake) E_GTake) (cj1 (fitsOne (P:=Try.prog) (t:=101) (x:=w_5) (r:=[]) (by kernel_rfl)))))))) ?_
   refine inbN ?_
   refine thenN ?_
   refine run0z [] [0,5,13,14,15] [.mp 0 0 0,v_5,v_5,v_7,.i (wr (l1_15 + 1))] s_3 _ (by kernel_rfl) cj0 ?_
   replace hl1:=Option.some.inj hl1; subst hl1
   exact ⟨_,rfl,pi [(7,9)],mkInto (ks:=[0,5,13,14,15]) (ys:=[.mp 0 0 0,v_5,v_5,v_7,.i (wr (l1_15 + 1))]) (by kernel_rfl) (by kernel_rfl) (.k (.mp rfl rfl) (.k (.c (cleanMap _ _ cl_GCLive)) (.k (.c (cleanMap _ _ cl_GCLive)) (.k (.c rfl) (.k (.c rfl) .z))))) (.k rfl (.cells (.r (cleanMap _ _ cl_GTake))) (.k rfl (.cells (.r (cleanMap _ _ cl_GCLive))) (.k rfl (.cells (.k (.c rfl) .z)) (.k rfl (.cells (.r (cleanMap _ _ cl_GCDesk))) (.k rfl (.cells (.k (.a (.k (.c rfl) (.k (.c rfl) (.k (.c rfl) (.k (.c rfl) (.k (.ms rfl rfl) (.k (.c rfl) (.k (.c rfl) (.k (.c rfl) (.k (.ms rfl rfl) (.k (.c rfl) (.k (.ms rfl rfl) .z)))))))))))) .z)) .z)))))⟩
  ·refine run_cF 16 (c35 13) (c35 14) (decide (l1_15 < (r1.1.length:Int))) hc2 (by kernel_rfl) (by kernel_rfl) ?_
   replace hl1:=Option.some.inj hl1; subst hl1
   have hr:=rl1 _ rfl
   subst hr
   refine awp_p [5] [7,6,4,1,0] (zipE [5] [v_5]) s_2 (by kernel_rfl) (?_)
   refine run_e 0 (by kernel_rfl) ?_
   refine thenE ?_
   refine ⟨⟨_,rfl⟩,?_⟩
   refine inbE ?_
   exact kl1 l1_h0_10 rfl
 ·rintro _ rfl
  refine thenN ?_
  obtain ⟨r5,hr5,h⟩:=bindE h
  let v_9:AV:=.ms 7 0 l1x_h0_10.length
  let w_6:AV:=.agg [v_3,.i a0.now,.i a0.end_,v_4,v_1,.i a0.from_,.i a0.to_,.i a0.times,v_6,.fn 31 [],v_9]
  let b_7:Blk:=.cells 5 (l1x_h0_10.map E_GTake)
  let s_4:St:=⟨[(7,b_7),(6,b_4),(4,b_3),(1,b_1),(0,.cells 11 [w_6])],8⟩
  refine run1z (c35 23) [{},{ c:=some (.sl false (r5.map E_GVoice),s_4) }] [4] [.sl false (r5.map E_GVoice)] s_4 _ (by kernel_rfl) (cj1 (f42_ok r1.1 _ hr5 s_4)) ?_
  refine run_t (by kernel_rfl) ?_
  replace h:=Option.some.inj h; subst h
  exact fin_p [7,6,4,1,0] s_4 (by kernel_rfl) (by kernel_rfl) rfl ⟨rfl,rfl⟩
def f25_1 (a0:GCPlayer) (a1:Int) (a2:Bool):Option (GFrame × Int × List GCDesk × List GCLive × List GTake):=(f40 a1 0 (wr ((a0.desks.length:Int) - 1))).bind fun r1=>bif (!r1) then (some ((⟨0,([]:List GVoice),([]:List GVoice)⟩:GFrame),1,a0.desks,a0.sounding.l,a0.takes)) else ((ix a0.desks a1).bind fun y3=>((bif (y3.silent == a2) then (some (([]:List GVoice),a0.desks,a0.sounding.l,a0.takes)) else (bif a2 then ((f35_2 a0 a1).bind fun r6=>some (r6.1,(a0.desks.set a1.toNat (⟨y3.notes,true,y3.since⟩:GCDesk)),r6.2.1,r6.2.2)) else ((ix (a0.desks.set a1.toNat (⟨y3.notes,false,y3.since⟩:GCDesk)) a1).bind fun y7=>bif (!a0.waiting) then ((ix ((a0.desks.set a1.toNat (⟨y3.notes,false,y3.since⟩:GCDesk)).set a1.toNat (⟨y7.notes,y7.silent,a0.now⟩:GCDesk)) a1).bind fun y9=>some (([]:List GVoice),(((a0.desks.set a1.toNat (⟨y3.notes,false,y3.since⟩:GCDesk)).set a1.toNat (⟨y7.notes,y7.silent,a0.now⟩:GCDesk)).set a1.toNat (⟨y9.notes,y9.silent,(wr (y9.since + 1))⟩:GCDesk)),a0.sounding.l,a0.takes)) else (some (([]:List GVoice),((a0.desks.set a1.toNat (⟨y3.notes,false,y3.since⟩:GCDesk)).set a1.toNat (⟨y7.notes,y7.silent,a0.now⟩:GCDesk)),a0.sounding.l,a0.takes))))):Option (List GVoice × List GCDesk × List GCLive × List GTake)).bind fun ((j1_h5_2,j1_h0_4,j1_h0_8,j1_h0_10):(List GVoice × List GCDesk × List GCLive × List GTake))=>some ((⟨a0.now,([]:List GVoice),j1_h5_2⟩:GFrame),0,j1_h0_4,j1_h0_8,j1_h0_10))
theorem f25_1_ok (a0:GCPlayer) (a1:Int) (a2:Bool) (r:(GFrame × Int × List GCDesk × List GCLive × List GTake)) (h:f25_1 a0 a1 a2 = some r):ACalls Try.prog 25 [.mp 0 0 0,.i a1,.bool a2] ⟨[(3,.cells 5 (a0.takes.map E_GTake)),(2,.cells 7 (a0.sounding.l.map E_GCLive)),(1,.cells 3 (a0.desks.map E_GCDesk)),(0,.cells 11 [.agg [.i a0.clock.ticks,.i a0.now,.i a0.end_,.bool a0.waiting,.ms 1 0 a0.desks.length,.i a0.from_,.i a0.to_,.i a0.times,.ms 2 0 a0.sounding.l.length,.fn 31 [],.ms 3 0 a0.takes.length]])],4⟩ (fun y t=>y = .tup [.agg [.i r.1.time,.sl false (r.1.begin.map E_GVoice),.sl false (r.1.end_.map E_GVoice)],.i r.2.1] ∧ t = ⟨[(12,.cells 5 (r.2.2.2.2.map E_GTake)),(11,.cells 7 (r.2.2.2.1.map E_GCLive)),(1,.cells 3 (r.2.2.1.map E_GCDesk)),(0,.cells 11 [.agg [.i a0.clock.ticks,.i a0.now,.i a0.end_,.bool a0.waiting,.ms 1 0 r.2.2.1.length,.i a0.from_,.i a0.to_,.i a0.times,.ms 11 0 r.2.2.2.1.length,.fn 31 [],.ms 12 0 r.2.2.2.2.length]])],13⟩):=by
 refine run_f 74 [.cell 6 34,.tmp 7] (c25 0) (zipE [0,1,2] [.mp 0 0 0,.i a1,.bool a2]) (by kernel_rfl) (by kernel_rfl) (by kernel_rfl) rfl ?_
 unfold f25_1 at h
 let v_0:AV:=.ms 2 0 a0.sounding.l.length
 let v_1:AV:=.ms 1 0 a0.desks.length
 let v_2:AV:=.ms 3 0 a0.takes.length
 let v_3:AV:=.i a0.clock.ticks
 let v_4:AV:=.bool a0.waiting
 let w_0:AV:=.agg [v_3,.i a0.now,.i a0.end_,v_4,v_1,.i a0.from_,.i a0.to_,.i a0.times,v_0,.fn 31 [],v_2]
 let w_1:AV:=.agg [.i 0,.sl true [],.sl true []]
 let b_0:Blk:=.cells 7 (a0.sounding.l.map E_GCLive)
 let b_1:Blk:=.cells 3 (a0.desks.map E_GCDesk)
 let b_2:Blk:=.cells 5 (a0.takes.map E_GTake)
 let b_3:Blk:=.cells 1 [.i a1]
 let s_0:St:=⟨[(5,.cells 3 [w_1]),(4,b_3),(3,b_2),(2,b_0),(1,b_1),(0,.cells 11 [w_0])],6⟩
 refine run1z (c25 2) [] [0,2,4,6] [.mp 0 0 0,.bool a2,.mp 4 0 0,.mp 5 0 0] s_0 _ (by kernel_rfl) cj0 ?_
 refine run_s (c25 3) (c25 17) (by kernel_rfl) ?_
 refine run_b 0 (c25 4) (by kernel_rfl) ?_
 refine run1z (c25 6) [] [0,2,4,6,9] [.mp 0 0 0,.bool a2,.mp 4 0 0,.mp 5 0 0,.bool false] s_0 _ (by kernel_rfl) cj0 ?_
 refine run_cF 9 (c25 7) (c25 10) false rfl (by kernel_rfl) (by kernel_rfl) ?_
 obtain ⟨r1,hr1,h⟩:=bindE h
 refine yun1z (c25 12) [[],[],[1],[1,2],[1,2,3],[1,2,3,4],[1,2,3,4,5],[0,1,2,3,4,5,6],[0,1,2,3,4,5,6,7],[0,1,2,3,4,5,6,7,8]] [.light 0 false,.light 1 false,.light 2 false,.light 3 false,.light 4 false,.light 5 false,.light 6 false,.heavy 7 [],.light 8 false,.light 9 false] [{},{},{},{},{},{},{},{ c:=some (.bool r1,s_0) }] [0,2,4,6,13] [.mp 0 0 0,.bool a2,.mp 4 0 0,.mp 5 0 0,.bool (!r1)] s_0 _ (by kernel_rfl) (cj1 (f40_ok a1 0 (wr ((a0.desks.length:Int) - 1)) _ hr1 s_0)) ?_
 rcases iteE h with ⟨hc2,h⟩ | ⟨hc2,h⟩
 ·refine run_cT 13 (c25 13) (c25 16) (!r1) hc2 (by kernel_rfl) (by kernel_rfl) ?_
  refine run1z (c25 15) [] [6,7] [.mp 5 0 0,.i 1] ⟨[(5,.cells 3 [w_1]),(3,b_2),(2,b_0),(1,b_1),(0,.cells 11 [w_0])],6⟩ _ (by kernel_rfl) cj0 ?_
  let v_5:AV:=.ms 11 0 a0.sounding.l.length
  let w_2:AV:=.agg [v_3,.i a0.now,.i a0.end_,v_4,v_1,.i a0.from_,.i a0.to_,.i a0.times,v_5,.fn 31 [],.ms 12 0 a0.takes.length]
  refine run_i 6 [(11,2),(12,3)] [6,7] [.mp 5 0 0,.i 1] (xs:=[.mp 5 0 0,.i 1]) (S2:=⟨[(12,b_2),(11,b_0),(5,.cells 3 [E_GFrame (⟨0,([]:List GVoice),([]:List GVoice)⟩:GFrame)]),(1,b_1),(0,.cells 11 [w_2])],13⟩) ?_ (by intro i e; cases e <;> exact Nat.le_of_ble_eq_true rfl) (by kernel_rfl) (by kernel_rfl) (by kernel_rfl) (.k (.mp rfl rfl) (.k (.c rfl) .z)) (.k rfl (.cells (.r (cleanMap _ _ cl_GTake))) (.k rfl (.cells (.r (cleanMap _ _ cl_GCLive))) (.k rfl (.cells (.k (.a (.k (.c rfl) (.k (.s (cleanMap ([]:List GVoice) _ cl_GVoice)) (.k (.s (cleanMap ([]:List GVoice) _ cl_GVoice)) .z)))) .z)) (.k rfl (.cells (.r (cleanMap _ _ cl_GCDesk))) (.k rfl (.cells (.k (.a (.k (.c rfl) (.k (.c rfl) (.k (.c rfl) (.k (.c rfl) (.k (.ms rfl rfl) (.k (.c rfl) (.k (.c rfl) (.k (.c rfl) (.k (.ms rfl rfl) (.k (.c rfl) (.k (.ms rfl rfl) .z)))))))))))) .z)) .z)))))
  refine run_t (by kernel_rfl) ?_
  refine inbR ?_
  refine thenR ?_
  replace h:=Option.some.inj h; subst h
  exact fin_p [12,11,1,0] ⟨[(12,b_2),(11,b_0),(1,b_1),(0,.cells 11 [w_2])],13⟩ (by kernel_rfl) (by kernel_rfl) rfl ⟨rfl,rfl⟩
 ·refine run_cF 13 (c25 13) (c25 16) (!r1) hc2 (by kernel_rfl) (by kernel_rfl) ?_
  refine run_k (by kernel_rfl) ?_
  refine inbN ?_
  refine thenN ?_
  let w_3:AV:=.agg [.i a0.now,.sl true [],.sl true []]
  let s_1:St:=⟨[(5,.cells 3 [w_3]),(4,b_3),(3,b_2),(2,b_0),(1,b_1),(0,.cells 11 [w_0])],6⟩
  refine run1z (c25 19) [] [0,2,4,6] [.mp 0 0 0,.bool a2,.mp 4 0 0,.mp 5 0 0] s_1 _ (by kernel_rfl) cj0 ?_
  obtain ⟨y3,hy3,h⟩:=bindE h
  refine yun1z (c25 21) [[],[0],[0,1],[0,1,2],[],[0,1,2,3,4],[0,1,2,3,4,5]] [.light 0 false,.light 1 false,.light 2 false,.light 3 false,.light 4 false,.light 5 false,.light 6 false] [{},{},{},{},{},{ k:=1,n:=a1.toNat }] [0,2,4,6,8] [.mp 0 0 0,.bool a2,.mp 4 0 0,.mp 5 0 0,.mp 1 a1.toNat 0] s_1 _ (by kernel_rfl) (cjC ((ixE hy3).1) (cjC (ixLt hy3) (cj1 (Nat.zero_add a1.toNat)))) ?_
  obtain ⟨oj1,hj1,h⟩:=bindE h
  refine run_jq (c25 22) (c25 42) (fun ((j1_h5_2,j1_h0_4,j1_h0_8,j1_h0_10):(List GVoice × List GCDesk × List GCLive × List GTake))=>(zipE [6] [.mp 5 0 0])) (fun ((j1_h5_2,j1_h0_4,j1_h0_8,j1_h0_10):(List GVoice × List GCDesk × List GCLive × List GTake))=>⟨[(10,.cells 5 (j1_h0_10.map E_GTake)),(9,.cells 7 (j1_h0_8.map E_GCLive)),(5,.cells 3 [.agg [.i a0.now,.sl true [],.sl false (j1_h5_2.map E_GVoice)]]),(1,.cells 3 (j1_h0_4.map E_GCDesk)),(0,.cells 11 [.agg [v_3,.i a0.now,.i a0.end_,v_4,.ms 1 0 j1_h0_4.length,.i a0.from_,.i a0.to_,.i a0.times,.ms 9 0 j1_h0_8.length,.fn 31 [],.ms 10 0 j1_h0_10.length]])],11⟩) (fun j=>oj1 = j) (by kernel_rfl) (fun kj1=>?_) ?_
  ·refine run_b 1 (c25 23) (by kernel_rfl) ?_
   refine run1z (c25 25) [{},{},{},{ k:=1,x:=E_GCDesk y3 }] [0,2,4,6,8,57] [.mp 0 0 0,.bool a2,.mp 4 0 0,.mp 5 0 0,.mp 1 a1.toNat 0,.bool (y3.silent == a2)] s_1 _ (by kernel_rfl) (cj1 (mapGet E_GCDesk (ixE hy3).2)) ?_
   rcases iteE hj1 with ⟨hc4,hj1⟩ | ⟨hc4,hj1⟩
   ·refine run_cT 57 (c25 26) (c25 27) (y3.silent == a2) hc4 (by kernel_rfl) (by kernel_rfl) ?_
    replace hj1:=Option.some.inj hj1; subst hj1
    refine run_i 9 [(9,2),(10,3)] [6] [.mp 5 0 0] (xs:=[.mp 5 0 0]) (S2:=⟨[(10,b_2),(9,b_0),(5,.cells 3 [.agg [.i a0.now,.sl true [],.sl false (([]:List GVoice).map E_GVoice)]]),(1,b_1),(0,.cells 11 [.agg [v_3,.i a0.now,.i a0.end_,v_4,v_1,.i a0.from_,.i a0.to_,.i a0.times,.ms 9 0 a0.sounding.l.length,.fn 31 [],.ms 10 0 a0.takes.length]])],11⟩) ?_ (by intro i e; cases e <;> exact Nat.le_of_ble_eq_true rfl) (by kernel_rfl) (by kernel_rfl) (by kernel_rfl) (.k (.mp rfl rfl) .z) (.k rfl (.cells (.r (cleanMap _ _ cl_GTake))) (.k rfl (.cells (.r (cleanMap _ _ cl_GCLive))) (.k rfl (.cells (.k (.a (.k (.c rfl) (.k (.c rfl) (.k (.s (cleanMap (([]:List GVoice)) _ cl_GVoice)) .z)))) .z)) (.k rfl (.cells (.r (cleanMap _ _ cl_GCDesk))) (.k rfl (.cells (.k (.a (.k (.c rfl) (.k (.c rfl) (.k (.c rfl) (.k (.c rfl) (.k (.ms rfl rfl) (.k (.c rfl) (.k (.c rfl) (.k (.c rfl) (.k (.ms rfl rfl) (.k (.c rfl) (.k (.ms rfl rfl) .z)))))))))))) .z)) .z)))))
    refine run_k (by kernel_rfl) ?_
    refine inbN ?_
    refine thenN ?_
    exact kj1 (([]:List GVoice),a0.desks,a0.sounding.l,a0.takes) rfl
   ·refine run_cF 57 (c25 26) (c25 27) (y3.silent == a2) hc4 (by kernel_rfl) (by kernel_rfl) ?_
    refine run1z (c25 29) [] [0,4,6,8,64] [.mp 0 0 0,.mp 4 0 0,.mp 5 0 0,.mp 1 a1.toNat 0,.bool a2] s_1 _ (by kernel_rfl) cj0 ?_
    rcases iteE hj1 with ⟨hc5,hj1⟩ | ⟨hc5,hj1⟩
    ·refine run_cT 64 (c25 30) (c25 33) a2 hc5 (by kernel_rfl) (by kernel_rfl) ?_
     obtain ⟨r6,hr6,hj1⟩:=bindE hj1
     let v_6:AV:=.sl false (r6.1.map E_GVoice)
     let v_7:AV:=.ms 7 0 r6.2.1.length
     let v_8:AV:=.ms 8 0 r6.2.2.length
     let w_4:AV:=.agg [v_3,.i a0.now,.i a0.end_,v_4,v_1,.i a0.from_,.i a0.to_,.i a0.times,v_7,.fn 31 [],v_8]
     let w_5:AV:=.agg [.i a0.now,.sl true [],v_6]
     let b_4:Blk:=.cells 7 (r6.2.1.map E_GCLive)
     let b_5:Blk:=.cells 5 (r6.2.2.map E_GTake)
     let s_2:St:=⟨[(8,b_5),(7,b_4),(5,.cells 3 [w_3]),(4,b_3),(1,b_1),(0,.cells 11 [w_4])],9⟩
     refine run1z (c25 32) [{},{},{ c:=some (v_6,s_2) }] [6,8] [.mp 5 0 0,.mp 1 a1.toNat 0] ⟨[(8,b_5),(7,b_4),(5,.cells 3 [w_5]),(1,b_1),(0,.cells 11 [w_4])],9⟩ _ (by kernel_rfl) (cj1 (callF (f35_2_ok a0 a1 _ hr6) [(0,0),(1,1),(2,2),(3,3),(4,4)] [(8,7),(7,6),(4,4),(1,1),(0,0)] [5] [.mp 0 0 0,.fn 43 [.mp 4 0 0]] s_1 (v_6) s_2 (by kernel_rfl) (.k (.mp rfl rfl) (.k (.f (.k (.mp rfl rfl) .z)) .z)) (.c (cleanMap _ _ cl_GVoice)) (.k rfl (.cells (.k (.c rfl) .z)) (.k rfl (.cells (.r (cleanMap _ _ cl_GTake))) (.k rfl (.cells (.r (cleanMap _ _ cl_GCLive))) (.k rfl (.cells (.r (cleanMap _ _ cl_GCDesk))) (.k rfl (.cells (.k (.a (.k (.c rfl) (.k (.c rfl) (.k (.c rfl) (.k (.c rfl) (.k (.ms rfl rfl) (.k (.c rfl) (.k (.c rfl) (.k (.c rfl) (.k (.ms rfl rfl) (.k (.c rfl) (.k (.ms rfl rfl) .z)))))))))))) .z)) .z))))) (.d (x':=b_5) rfl (by kernel_rfl) (.cells (.r (cleanMap _ _ cl_GTake))) (.d (x':=b_4) rfl (by kernel_rfl) (.cells (.r (cleanMap _ _ cl_GCLive))) (.f rfl (by kernel_rfl) (.d (x':=b_3) rfl (by kernel_rfl) (.cells (.k (.c rfl) .z)) (.d (x':=b_1) rfl (by kernel_rfl) (.cells (.r (cleanMap _ _ cl_GCDesk))) (.d (x':=.cells 11 [.agg [v_3,.i a0.now,.i a0.end_,v_4,v_1,.i a0.from_,.i a0.to_,.i a0.times,.ms 6 0 r6.2.1.length,.fn 31 [],.ms 7 0 r6.2.2.length]]) rfl (by kernel_rfl) (.cells (.k (.a (.k (.c rfl) (.k (.c rfl) (.k (.c rfl) (.k (.c rfl) (.k (.ms rfl rfl) (.k (.c rfl) (.k (.c rfl) (.k (.c rfl) (.k (.ms rfl rfl) (.k (.c rfl) (.k (.ms rfl rfl) .z)))))))))))) .z)) .z)))))))) ?_
     refine awp_post (by intro i e; cases e <;> exact Nat.le_of_ble_eq_true rfl) ?_
     let b_6:Blk:=.cells 3 ((a0.desks.set a1.toNat (⟨y3.notes,true,y3.since⟩:GCDesk)).map E_GCDesk)
     refine run0z [{},{},{},{ k:=1,x:=E_GCDesk y3,l:=(a0.desks.set a1.toNat (⟨y3.notes,true,y3.since⟩:GCDesk)).map E_GCDesk }] [6] [.mp 5 0 0] ⟨[(8,b_5),(7,b_4),(5,.cells 3 [w_5]),(1,b_6),(0,.cells 11 [w_4])],9⟩ _ (by kernel_rfl) (cjC (mapGet E_GCDesk (ixE hy3).2) (cjC ((by decide:(2:Nat) ≤ 3)) (cj1 (mapSet a0.desks E_GCDesk a1.toNat (⟨y3.notes,true,y3.since⟩:GCDesk))))) ?_
     refine ⟨9,pi [],(zipE [6] [.mp 5 0 0]),⟨[(8,b_5),(7,b_4),(5,.cells 3 [w_5]),(1,b_6),(0,.cells 11 [.agg [v_3,.i a0.now,.i a0.end_,v_4,.ms 1 0 (a0.desks.set a1.toNat (⟨y3.notes,true,y3.since⟩:GCDesk)).length,.i a0.from_,.i a0.to_,.i a0.times,v_7,.fn 31 [],v_8]])],9⟩,Nat.le_of_ble_eq_true rfl,mkInto (ks:=[6]) (ys:=[.mp 5 0 0]) (by kernel_rfl) (by kernel_rfl) (.k (.mp rfl rfl) .z) (.k rfl (.cells (.r (cleanMap _ _ cl_GTake))) (.k rfl (.cells (.r (cleanMap _ _ cl_GCLive))) (.k rfl (.cells (.k (.a (.k (.c rfl) (.k (.c rfl) (.k (.c (cleanMap _ _ cl_GVoice)) .z)))) .z)) (.k rfl (.cells (.r (cleanMap _ _ cl_GCDesk))) (.k rfl (.cells (.k (.a (.k (.c rfl) (.k (.c rfl) (.k (.c rfl) (.k (.c rfl) (.k (.e rfl rfl (by simp)) (.k (.c rfl) (.k (.c rfl) (.k (.c rfl) (.k (.ms rfl rfl) (.k (.c rfl) (.k (.ms rfl rfl) .z)))))))))))) .z)) .z))))),?_⟩
     replace hj1:=Option.some.inj hj1; subst hj1
     refine inbN ?_
     refine thenN ?_
     exact run_i 9 [(9,7),(10,8)] [6] [.mp 5 0 0] (kj1 (r6.1,(a0.desks.set a1.toNat (⟨y3.notes,true,y3.since⟩:GCDesk)),r6.2.1,r6.2.2) rfl) (by intro i e; cases e <;> exact Nat.le_of_ble_eq_true rfl) (by kernel_rfl) (by kernel_rfl) (by kernel_rfl) (.k (.mp rfl rfl) .z) (.k rfl (.cells (.r (cleanMap _ _ cl_GTake))) (.k rfl (.cells (.r (cleanMap _ _ cl_GCLive))) (.k rfl (.cells (.k (.a (.k (.c rfl) (.k (.c rfl) (.k (.c (cleanMap _ _ cl_GVoice)) .z)))) .z)) (.k rfl (.cells (.r (cleanMap _ _ cl_GCDesk))) (.k rfl (.cells (.k (.a (.k (.c rfl) (.k (.c rfl) (.k (.c rfl) (.k (.c rfl) (.k (.ms rfl rfl) (.k (.c rfl) (.k (.c rfl) (.k (.c rfl) (.k (.ms rfl rfl) (.k (.c rfl) (.k (.ms rfl rfl) .z)))))))))))) .z)) .z)))))
    ·refine run_cF 64 (c25 30) (c25 33) a2 hc5 (by kernel_rfl) (by kernel_rfl) ?_
     let b_7:Blk:=.cells 3 ((a0.desks.set a1.toNat (⟨y3.notes,false,y3.since⟩:GCDesk)).map E_GCDesk)
     refine run1z (c25 35) [{},{},{},{ k:=1,x:=E_GCDesk y3,l:=(a0.desks.set a1.toNat (⟨y3.notes,false,y3.since⟩:GCDesk)).map E_GCDesk }] [0,6,8] [.mp 0 0 0,.mp 5 0 0,.mp 1 a1.toNat 0] ⟨[(5,.cells 3 [w_3]),(3,b_2),(2,b_0),(1,b_7),(0,.cells 11 [w_0])],6⟩ _ (by kernel_rfl) (cjC (mapGet E_GCDesk (ixE hy3).2) (cjC ((by decide:(2:Nat) ≤ 3)) (cj1 (mapSet a0.desks E_GCDesk a1.toNat (⟨y3.notes,false,y3.since⟩:GCDesk))))) ?_
     let w_6:AV:=.agg [v_3,.i a0.now,.i a0.end_,v_4,.ms 1 0 (a0.desks.set a1.toNat (⟨y3.notes,false,y3.since⟩:GCDesk)).length,.i a0.from_,.i a0.to_,.i a0.times,v_0,.fn 31 [],v_2]
     refine run_i 6 [] [0,6,8] [.mp 0 0 0,.mp 5 0 0,.mp 1 a1.toNat 0] (xs:=[.mp 0 0 0,.mp 5 0 0,.mp 1 a1.toNat 0]) (S2:=⟨[(5,.cells 3 [w_3]),(3,b_2),(2,b_0),(1,b_7),(0,.cells 11 [w_6])],6⟩) ?_ (by intro i e; cases e <;> exact Nat.le_of_ble_eq_true rfl) (by kernel_rfl) (by kernel_rfl) (by kernel_rfl) (.k (.mp rfl rfl) (.k (.mp rfl rfl) (.k (.mp rfl rfl) .z))) (.k rfl (.cells (.k (.a (.k (.c rfl) (.k (.c rfl) (.k (.c rfl) .z)))) .z)) (.k rfl (.cells (.r (cleanMap _ _ cl_GTake))) (.k rfl (.cells (.r (cleanMap _ _ cl_GCLive))) (.k rfl (.cells (.r (cleanMap _ _ cl_GCDesk))) (.k rfl (.cells (.k (.a (.k (.c rfl) (.k (.c rfl) (.k (.c rfl) (.k (.c rfl) (.k (.e rfl rfl (by simp)) (.k (.c rfl) (.k (.c rfl) (.k (.c rfl) (.k (.ms rfl rfl) (.k (.c rfl) (.k (.ms rfl rfl) .z)))))))))))) .z)) .z)))))
     obtain ⟨y7,hy7,hj1⟩:=bindE hj1
     let b_8:Blk:=.cells 3 (((a0.desks.set a1.toNat (⟨y3.notes,false,y3.since⟩:GCDesk)).set a1.toNat (⟨y7.notes,y7.silent,a0.now⟩:GCDesk)).map E_GCDesk)
     refine run1z (c25 37) [{},{},{},{},{},{},{},{ k:=1,x:=E_GCDesk y7,l:=((a0.desks.set a1.toNat (⟨y3.notes,false,y3.since⟩:GCDesk)).set a1.toNat (⟨y7.notes,y7.silent,a0.now⟩:GCDesk)).map E_GCDesk }] [0,6,8] [.mp 0 0 0,.mp 5 0 0,.mp 1 a1.toNat 0] ⟨[(5,.cells 3 [w_3]),(3,b_2),(2,b_0),(1,b_8),(0,.cells 11 [w_6])],6⟩ _ (by kernel_rfl) (cjC (mapGet E_GCDesk (ixE hy7).2) (cjC ((by decide:(3:Nat) ≤ 3)) (cj1 (mapSet (a0.desks.set a1.toNat (⟨y3.notes,false,y3.since⟩:GCDesk)) E_GCDesk a1.toNat (⟨y7.notes,y7.silent,a0.now⟩:GCDesk))))) ?_
     let w_7:AV:=.agg [v_3,.i a0.now,.i a0.end_,v_4,.ms 1 0 ((a0.desks.set a1.toNat (⟨y3.notes,false,y3.since⟩:GCDesk)).set a1.toNat (⟨y7.notes,y7.silent,a0.now⟩:GCDesk)).length,.i a0.from_,.i a0.to_,.i a0.times,v_0,.fn 31 [],v_2]
     let s_3:St:=⟨[(5,.cells 3 [w_3]),(3,b_2),(2,b_0),(1,b_8),(0,.cells 11 [w_7])],6⟩
     refine run_i 6 [] [0,6,8] [.mp 0 0 0,.mp 5 0 0,.mp 1 a1.toNat 0] (xs:=[.mp 0 0 0,.mp 5 0 0,.mp 1 a1.toNat 0]) (S2:=s_3) ?_ (by intro i e; cases e <;> exact Nat.le_of_ble_eq_true rfl) (by kernel_rfl) (by kernel_rfl) (by kernel_rfl) (.k (.mp rfl rfl) (.k (.mp rfl rfl) (.k (.mp rfl rfl) .z))) (.k rfl (.cells (.k (.a (.k (.c rfl) (.k (.c rfl) (.k (.c rfl) .z)))) .z)) (.k rfl (.cells (.r (cleanMap _ _ cl_GTake))) (.k rfl (.cells (.r (cleanMap _ _ cl_GCLive))) (.k (x':=b_8) (by kernel_rfl) (.cells (.r (cleanMap _ _ cl_GCDesk))) (.k rfl (.cells (.k (.a (.k (.c rfl) (.k (.c rfl) (.k (.c rfl) (.k (.c rfl) (.k (.e rfl rfl (by simp)) (.k (.c rfl) (.k (.c rfl) (.k (.c rfl) (.k (.ms rfl rfl) (.k (.c rfl) (.k (.ms rfl rfl) .z)))))))))))) .z)) .z)))))
     refine run1z (c25 39) [] [6,8,49] [.mp 5 0 0,.mp 1 a1.toNat 0,.bool (!a0.waiting)] s_3 _ (by kernel_rfl) cj0 ?_
     rcases iteE hj1 with ⟨hc8,hj1⟩ | ⟨hc8,hj1⟩
     ·refine run_cT 49 (c25 40) (c25 41) (!a0.waiting) hc8 (by kernel_rfl) (by kernel_rfl) ?_
      obtain ⟨y9,hy9,hj1⟩:=bindE hj1
      refine awp_post (by intro i e; cases e <;> exact Nat.le_of_ble_eq_true rfl) ?_
      let b_9:Blk:=.cells 3 ((((a0.desks.set a1.toNat (⟨y3.notes,false,y3.since⟩:GCDesk)).set a1.toNat (⟨y7.notes,y7.silent,a0.now⟩:GCDesk)).set a1.toNat (⟨y9.notes,y9.silent,(wr (y9.since + 1))⟩:GCDesk)).map E_GCDesk)
      refine run0z [{},{},{},{ k:=1,x:=E_GCDesk y9 },{},{},{},{ k:=1,x:=E_GCDesk y9,l:=(((a0.desks.set a1.toNat (⟨y3.notes,false,y3.since⟩:GCDesk)).set a1.toNat (⟨y7.notes,y7.silent,a0.now⟩:GCDesk)).set a1.toNat (⟨y9.notes,y9.silent,(wr (y9.since + 1))⟩:GCDesk)).map E_GCDesk }] [6] [.mp 5 0 0] ⟨[(5,.cells 3 [w_3]),(3,b_2),(2,b_0),(1,b_9),(0,.cells 11 [w_7])],6⟩ _ (by kernel_rfl) (cjC (mapGet E_GCDesk (ixE hy9).2) (cjC (mapGet E_GCDesk (ixE hy9).2) (cjC ((by decide:(3:Nat) ≤ 3)) (cj1 (mapSet ((a0.desks.set a1.toNat (⟨y3.notes,false,y3.since⟩:GCDesk)).set a1.toNat (⟨y7.notes,y7.silent,a0.now⟩:GCDesk)) E_GCDesk a1.toNat (⟨y9.notes,y9.silent,(wr (y9.since + 1))⟩:GCDesk)))))) ?_
      let w_8:AV:=.agg [v_3,.i a0.now,.i a0.end_,v_4,.ms 1 0 (((a0.desks.set a1.toNat (⟨y3.notes,false,y3.since⟩:GCDesk)).set a1.toNat (⟨y7.notes,y7.silent,a0.now⟩:GCDesk)).set a1.toNat (⟨y9.notes,y9.silent,(wr (y9.since + 1))⟩:GCDesk)).length,.i a0.from_,.i a0.to_,.i a0.times,v_0,.fn 31 [],v_2]
      refine ⟨6,pi [],(zipE [6] [.mp 5 0 0]),⟨[(5,.cells 3 [w_3]),(3,b_2),(2,b_0),(1,b_9),(0,.cells 11 [w_8])],6⟩,Nat.le_of_ble_eq_true rfl,mkInto (ks:=[6]) (ys:=[.mp 5 0 0]) (by kernel_rfl) (by kernel_rfl) (.k (.mp rfl rfl) .z) (.k rfl (.cells (.k (.a (.k (.c rfl) (.k (.c rfl) (.k (.c rfl) .z)))) .z)) (.k rfl (.cells (.r (cleanMap _ _ cl_GTake))) (.k rfl (.cells (.r (cleanMap _ _ cl_GCLive))) (.k (x':=b_9) (by kernel_rfl) (.cells (.r (cleanMap _ _ cl_GCDesk))) (.k rfl (.cells (.k (.a (.k (.c rfl) (.k (.c rfl) (.k (.c rfl) (.k (.c rfl) (.k (.e rfl rfl (by simp)) (.k (.c rfl) (.k (.c rfl) (.k (.c rfl) (.k (.ms rfl rfl) (.k (.c rfl) (.k (.ms rfl rfl) .z)))))))))))) .z)) .z))))),?_⟩
      replace hj1:=Option.some.inj hj1; subst hj1
      refine inbN ?_
      refine thenN ?_
      exact run_i 9 [(9,2),(10,3)] [6] [.mp 5 0 0] (kj1 (([]:List GVoice),(((a0.desks.set a1.toNat (⟨y3.notes,false,y3.since⟩:GCDesk)).set a1.toNat (⟨y7.notes,y7.silent,a0.now⟩:GCDesk)).set a1.toNat (⟨y9.notes,y9.silent,(wr (y9.since + 1))⟩:GCDesk)),a0.sounding.l,a0.takes) rfl) (by intro i e; cases e <;> exact Nat.le_of_ble_eq_true rfl) (by kernel_rfl) (by kernel_rfl) (by kernel_rfl) (.k (.mp rfl rfl) .z) (.k rfl (.cells (.r (cleanMap _ _ cl_GTake))) (.k rfl (.cells (.r (cleanMap _ _ cl_GCLive))) (.k rfl (.cells (.k (.a (.k (.c rfl) (.k (.c rfl) (.k (.s (cleanMap (([]:List GVoice)) _ cl_GVoice)) .z)))) .z)) (.k (x':=b_9) (by kernel_rfl) (.cells (.r (cleanMap _ _ cl_GCDesk))) (.k (x':=.cells 11 [w_8]) (by kernel_rfl) (.cells (.k (.a (.k (.c rfl) (.k (.c rfl) (.k (.c rfl) (.k (.c rfl) (.k (.ms rfl rfl) (.k (.c rfl) (.k (.c rfl) (.k (.c rfl) (.k (.ms rfl rfl) (.k (.c rfl) (.k (.ms rfl rfl) .z)))))))))))) .z)) .z)))))
     ·refine run_cF 49 (c25 40) (c25 41) (!a0.waiting) hc8 (by kernel_rfl) (by kernel_rfl) ?_
      replace hj1:=Option.some.inj hj1; subst hj1
      refine run_i 9 [(9,2),(10,3)] [6] [.mp 5 0 0] (xs:=[.mp 5 0 0]) (S2:=⟨[(10,b_2),(9,b_0),(5,.cells 3 [.agg [.i a0.now,.sl true [],.sl false (([]:List GVoice).map E_GVoice)]]),(1,b_8),(0,.cells 11 [.agg [v_3,.i a0.now,.i a0.end_,v_4,.ms 1 0 ((a0.desks.set a1.toNat (⟨y3.notes,false,y3.since⟩:GCDesk)).set a1.toNat (⟨y7.notes,y7.silent,a0.now⟩:GCDesk)).length,.i a0.from_,.i a0.to_,.i a0.times,.ms 9 0 a0.sounding.l.length,.fn 31 [],.ms 10 0 a0.takes.length]])],11⟩) ?_ (by intro i e; cases e <;> exact Nat.le_of_ble_eq_true rfl) (by kernel_rfl) (by kernel_rfl) (by kernel_rfl) (.k (.mp rfl rfl) .z) (.k rfl (.cells (.r (cleanMap _ _ cl_GTake))) (.k rfl (.cells (.r (cleanMap _ _ cl_GCLive))) (.k rfl (.cells (.k (.a (.k (.c rfl) (.k (.c rfl) (.k (.s (cleanMap (([]:List GVoice)) _ cl_GVoice)) .z)))) .z)) (.k (x':=b_8) (by kernel_rfl) (.cells (.r (cleanMap _ _ cl_GCDesk))) (.k rfl (.cells (.k (.a (.k (.c rfl) (.k (.c rfl) (.k (.c rfl) (.k (.c rfl) (.k (.ms rfl rfl) (.k (.c rfl) (.k (.c rfl) (.k (.c rfl) (.k (.ms rfl rfl) (.k (.c rfl) (.k (.ms rfl rfl) .z)))))))))))) .z)) .z)))))
      refine run_k (by kernel_rfl) ?_
      refine inbN ?_
      refine thenN ?_
      exact kj1 (([]:List GVoice),((a0.desks.set a1.toNat (⟨y3.notes,false,y3.since⟩:GCDesk)).set a1.toNat (⟨y7.notes,y7.silent,a0.now⟩:GCDesk)),a0.sounding.l,a0.takes) rfl
  ·rintro ⟨j1_h5_2,j1_h0_4,j1_h0_8,j1_h0_10⟩ rfl
   let v_9:AV:=.ms 1 0 j1_h0_4.length
   let b_10:Blk:=.cells 5 (j1_h0_10.map E_GTake)
   let b_11:Blk:=.cells 7 (j1_h0_8.map E_GCLive)
   let b_12:Blk:=.cells 3 (j1_h0_4.map E_GCDesk)
   refine run1z (c25 44) [] [6,7] [.mp 5 0 0,.i 0] ⟨[(10,b_10),(9,b_11),(5,.cells 3 [.agg [.i a0.now,.sl true [],.sl false (j1_h5_2.map E_GVoice)]]),(1,b_12),(0,.cells 11 [.agg [v_3,.i a0.now,.i a0.end_,v_4,v_9,.i a0.from_,.i a0.to_,.i a0.times,.ms 9 0 j1_h0_8.length,.fn 31 [],.ms 10 0 j1_h0_10.length]])],11⟩ _ (by kernel_rfl) cj0 ?_
   let w_9:AV:=.agg [v_3,.i a0.now,.i a0.end_,v_4,v_9,.i a0.from_,.i a0.to_,.i a0.times,.ms 11 0 j1_h0_8.length,.fn 31 [],.ms 12 0 j1_h0_10.length]
   refine run_i 11 [(11,9),(12,10)] [6,7] [.mp 5 0 0,.i 0] (xs:=[.mp 5 0 0,.i 0]) (S2:=⟨[(12,b_10),(11,b_11),(5,.cells 3 [E_GFrame (⟨a0.now,([]:List GVoice),j1_h5_2⟩:GFrame)]),(1,b_12),(0,.cells 11 [w_9])],13⟩) ?_ (by intro i e; cases e <;> exact Nat.le_of_ble_eq_true rfl) (by kernel_rfl) (by kernel_rfl) (by kernel_rfl) (.k (.mp rfl rfl) (.k (.c rfl) .z)) (.k rfl (.cells (.r (cleanMap _ _ cl_GTake))) (.k rfl (.cells (.r (cleanMap _ _ cl_GCLive))) (.k rfl (.cells (.k (.a (.k (.c rfl) (.k (.s (cleanMap ([]:List GVoice) _ cl_GVoice)) (.k (.c (cleanMap _ _ cl_GVoice)) .z)))) .z)) (.k rfl (.cells (.r (cleanMap _ _ cl_GCDesk))) (.k rfl (.cells (.k (.a (.k (.c rfl) (.k (.c rfl) (.k (.c rfl) (.k (.c rfl) (.k (.ms rfl rfl) (.k (.c rfl) (.k (.c rfl) (.k (.c rfl) (.k (.ms rfl rfl) (.k (.c rfl) (.k (.ms rfl rfl) .z)))))))))))) .z)) .z)))))
   refine run_t (by kernel_rfl) ?_
   replace h:=Option.some.inj h; subst h
   exact fin_p [12,11,1,0] ⟨[(12,b_10),(11,b_11),(1,b_12),(0,.cells 11 [w_9])],13⟩ (by kernel_rfl) (by kernel_rfl) rfl ⟨rfl,rfl⟩
end Go.Proofs.Ytpljabnngpnieaa
