/-
 Functions of the program as Lean functions,and the walks. Written by a program of ours.
-/
import Derived.Test.YtpljabnngpnieaaV32
import Derived.Test.YtpljabnngpnieaaV13
namespace Go.Proofs.Ytpljabnngpnieaa
open Go Go.Am
set_option maxRecDepth 100000
set_option linter.all false
def f42_1 (a0:List GCLive):Option (List GVoice):=(loopN (σ:=(List GVoice × Int)) (τ:=(List GVoice)) (fun ((l1_2,l1_7):(List GVoice × Int))=>bif (decide (l1_7 < (a0.length:Int))) then ((ix a0 l1_7).bind fun y2=>(f57 y2).bind fun r3=>need (l1_2.length + 1 ≤ maxElems) <| some (.inl ((l1_2 ++ [r3]),(wr (l1_7 + 1))))) else (some (.inr l1_2))) FUEL (([]:List GVoice),0)).bind fun (l1x_2:(List GVoice))=>some l1x_2
theorem f42_1_ok (a0:List GCLive) (r:(List GVoice)) (h:f42_1 a0 = some r):ACalls Try.prog 42 [.ms 0 0 a0.length] ⟨[(0,.cells 7 (a0.map E_GCLive))],1⟩ (fun y t=>y = .sl false (r.map E_GVoice) ∧ t = ⟨[(0,.cells 7 (a0.map E_GCLive))],2⟩):=by
 let v_0:AV:=.ms 0 0 a0.length
 refine run_f 18 [.tmp 2] (c42 0) (zipE [0] [v_0]) (by kernel_rfl) (by kernel_rfl) (by kernel_rfl) rfl ?_
 unfold f42_1 at h
 let b_0:Blk:=.cells 7 (a0.map E_GCLive)
 refine run1z (c42 2) [] [0,2] [v_0,.sl true []] ⟨[(0,b_0)],1⟩ _ (by kernel_rfl) cj0 ?_
 refine run_s (c42 3) (c42 19) (by kernel_rfl) ?_
 let v_1:AV:=.i (a0.length:Int)
 refine run1z (c42 5) [] [2,5,6,7] [.sl true [],v_0,v_1,.i 0] ⟨[(0,b_0)],1⟩ _ (by kernel_rfl) cj0 ?_
 obtain ⟨l1x_2,hll1x,h⟩:=bindE h
 refine run_tq (fun (l1x_2:(List GVoice))=>(zipE [2] [.ms 1 0 l1x_2.length])) (fun (l1x_2:(List GVoice))=>⟨[(1,.cells 3 (l1x_2.map E_GVoice)),(0,b_0)],2⟩) (fun j=>l1x_2 = j) (fun kl1=>?_) ?_
 ·refine run_b 0 (c42 6) (by kernel_rfl) ?_
  refine run_l (c42 7) _ hll1x (fun ((l1_2,l1_7):(List GVoice × Int))=>(zipE [2,5,6,7] [.ms 1 0 l1_2.length,v_0,v_1,.i l1_7])) (fun ((l1_2,l1_7):(List GVoice × Int))=>⟨[(1,.cells 3 (l1_2.map E_GVoice)),(0,b_0)],2⟩) [(1,1000000)] (by intro i e; cases e <;> exact Nat.le_of_ble_eq_true rfl) (by kernel_rfl) (mkInto (ks:=[2,5,6,7]) (ys:=[.sl true [],v_0,v_1,.i 0]) (by kernel_rfl) (by kernel_rfl) (.k (.n) (.k (.ms rfl rfl) (.k (.c rfl) (.k (.c rfl) .z)))) (.n rfl rfl rfl (.k rfl (.cells (.r (cleanMap _ _ cl_GCLive))) .z))) ?_
  rintro ⟨l1_2,l1_7⟩ out hl1 rl1
  let v_2:AV:=.ms 1 0 l1_2.length
  let b_1:Blk:=.cells 3 (l1_2.map E_GVoice)
  refine run1z (c42 9) [] [2,5,6,7,8] [v_2,v_0,v_1,.i l1_7,.bool (decide (l1_7 < (a0.length:Int)))] ⟨[(1,b_1),(0,b_0)],2⟩ _ (by kernel_rfl) cj0 ?_
  refine run_s (c42 10) (c42 13) (by kernel_rfl) ?_
  rcases iteE hl1 with ⟨hc1,hl1⟩ | ⟨hc1,hl1⟩
  ·refine run_cT 8 (c42 11) (c42 12) (decide (l1_7 < (a0.length:Int))) hc1 (by kernel_rfl) (by kernel_rfl) ?_
   refine run_k (by kernel_rfl) ?_
   refine thenN ?_
   refine run_s (c42 14) (c42 18) (by kernel_rfl) ?_
   refine run_b 1 (c42 15) (by kernel_rfl) ?_
   obtain ⟨y2,hy2,hl1⟩:=bindE hl1
   let b_2:Blk:=.cells 7 [E_GCLive y2]
   let s_0:St:=⟨[(2,b_2),(1,b_1),(0,b_0)],3⟩
   refine run1z (c42 17) [{ k:=1,n:=l1_7.toNat },{ k:=1,x:=E_GCLive y2 }] [2,4,5,6,7] [v_2,.mp 2 0 0,v_0,v_1,.i l1_7] s_0 _ (by kernel_rfl) (cjC ((ixE hy2).1) (cjC (ixLt hy2) (cjC (Nat.zero_add l1_7.toNat) (cj1 (mapGet E_GCLive (ixE hy2).2))))) ?_
   obtain ⟨r3,hr3,hl1⟩:=bindE hl1
   obtain ⟨hn4,hl1⟩:=needE hl1
   let b_3:Blk:=.cells 3 ((l1_2 ++ [r3]).map E_GVoice)
   refine run0z [{},{},{ c:=some (E_GVoice r3,s_0) },{},{ k:=1,n:=(l1_2 ++ [r3]).length,l:=(l1_2 ++ [r3]).map E_GVoice }] [2,5,6,7] [.ms 3 0 (l1_2 ++ [r3]).length,v_0,v_1,.i l1_7] ⟨[(3,b_3),(0,b_0)],4⟩ _ (by kernel_rfl) (cjC (f57_ok y2 _ hr3 s_0) (cjC (@List.cons_ne_nil AV (E_GVoice r3) []) (cjC (mLe l1_2 E_GVoice) (cjC (hn4) (cjC (lenA l1_2 ([r3]:List GVoice)) (cjC (appA l1_2 ([r3]:List GVoice) E_GVoice) (cj1 (fitsOne (P:=Try.prog) (t:=59) (x:=E_GVoice r3) (r:=[]) (by kernel_rfl))))))))) ?_
   refine inbN ?_
   refine thenN ?_
   refine run0z [] [2,5,6,7] [.ms 3 0 (l1_2 ++ [r3]).length,v_0,v_1,.i (wr (l1_7 + 1))] ⟨[(3,b_3),(0,b_0)],4⟩ _ (by kernel_rfl) cj0 ?_
   replace hl1:=Option.some.inj hl1; subst hl1
   exact ⟨_,rfl,pi [(1,3)],mkInto (ks:=[2,5,6,7]) (ys:=[.ms 3 0 (l1_2 ++ [r3]).length,v_0,v_1,.i (wr (l1_7 + 1))]) (by kernel_rfl) (by kernel_rfl) (.k (.ms rfl rfl) (.k (.ms rfl rfl) (.k (.c rfl) (.k (.c rfl) .z)))) (.k rfl (.cells (.r (cleanMap _ _ cl_GVoice))) (.k rfl (.cells (.r (cleanMap _ _ cl_GCLive))) .z))⟩
  ·refine run_cF 8 (c42 11) (c42 12) (decide (l1_7 < (a0.length:Int))) hc1 (by kernel_rfl) (by kernel_rfl) ?_
   replace hl1:=Option.some.inj hl1; subst hl1
   have hr:=rl1 _ rfl
   subst hr
   refine awp_p [2] [1,0] (zipE [2] [v_2]) ⟨[(1,b_1),(0,b_0)],2⟩ (by kernel_rfl) (?_)
   refine run_e 0 (by kernel_rfl) ?_
   refine thenE ?_
   refine ⟨⟨_,rfl⟩,?_⟩
   refine inbE ?_
   exact kl1 l1_2 rfl
 ·rintro _ rfl
  refine thenN ?_
  refine run1z (c42 21) [] [2] [.ms 1 0 l1x_2.length] ⟨[(1,.cells 3 (l1x_2.map E_GVoice)),(0,b_0)],2⟩ _ (by kernel_rfl) cj0 ?_
  refine run_z 1 3 (l1x_2.map E_GVoice) [2] [.ms 1 0 l1x_2.length] (xs:=[.sl false (l1x_2.map E_GVoice)]) (S2:=⟨[(0,b_0)],2⟩) ?_ (by kernel_rfl) (by kernel_rfl) (.k (.m (mLe l1x_2 E_GVoice) (mapAll l1x_2 E_GVoice)) .z) (.k (x':=b_0) rfl (by kernel_rfl) (.r _) .z) rfl rfl
  refine run_t (by kernel_rfl) ?_
  replace h:=Option.some.inj h; subst h
  exact fin_p [0] ⟨[(0,b_0)],2⟩ (by kernel_rfl) (by kernel_rfl) rfl ⟨rfl,rfl⟩
def f23_1 (a0:GCPlayer):Option (List GVoice):=(f42_1 a0.sounding.l).bind fun r1=>some r1
theorem f23_1_ok (a0:GCPlayer) (r:(List GVoice)) (h:f23_1 a0 = some r):ACalls Try.prog 23 [.mp 0 0 0] ⟨[(3,.cells 5 (a0.takes.map E_GTake)),(2,.cells 7 (a0.sounding.l.map E_GCLive)),(1,.cells 3 (a0.desks.map E_GCDesk)),(0,.cells 11 [.agg [.i a0.clock.ticks,.i a0.now,.i a0.end_,.bool a0.waiting,.ms 1 0 a0.desks.length,.i a0.from_,.i a0.to_,.i a0.times,.ms 2 0 a0.sounding.l.length,.fn 31 [],.ms 3 0 a0.takes.length]])],4⟩ (fun y t=>y = .sl false (r.map E_GVoice) ∧ t = ⟨[(3,.cells 5 (a0.takes.map E_GTake)),(2,.cells 7 (a0.sounding.l.map E_GCLive)),(1,.cells 3 (a0.desks.map E_GCDesk)),(0,.cells 11 [.agg [.i a0.clock.ticks,.i a0.now,.i a0.end_,.bool a0.waiting,.ms 1 0 a0.desks.length,.i a0.from_,.i a0.to_,.i a0.times,.ms 2 0 a0.sounding.l.length,.fn 31 [],.ms 3 0 a0.takes.length]])],5⟩):=by
 refine run_f 11 [.tmp 2] (c23 0) (zipE [0] [.mp 0 0 0]) (by kernel_rfl) (by kernel_rfl) (by kernel_rfl) rfl ?_
 unfold f23_1 at h
 let v_0:AV:=.ms 2 0 a0.sounding.l.length
 let v_1:AV:=.ms 1 0 a0.desks.length
 let v_2:AV:=.ms 3 0 a0.takes.length
 let v_3:AV:=.i a0.clock.ticks
 let v_4:AV:=.bool a0.waiting
 let w_0:AV:=.agg [v_3,.i a0.now,.i a0.end_,v_4,v_1,.i a0.from_,.i a0.to_,.i a0.times,v_0,.fn 31 [],v_2]
 let b_0:Blk:=.cells 7 (a0.sounding.l.map E_GCLive)
 let b_1:Blk:=.cells 3 (a0.desks.map E_GCDesk)
 let b_2:Blk:=.cells 5 (a0.takes.map E_GTake)
 let s_0:St:=⟨[(3,b_2),(2,b_0),(1,b_1),(0,.cells 11 [w_0])],4⟩
 refine run1z (c23 2) [] [0] [.mp 0 0 0] s_0 _ (by kernel_rfl) cj0 ?_
 refine run_s (c23 3) (c23 10) (by kernel_rfl) ?_
 refine run1z (c23 5) [] [0,4] [.mp 0 0 0,.bool false] s_0 _ (by kernel_rfl) cj0 ?_
 refine run_cF 4 (c23 6) (c23 9) false rfl (by kernel_rfl) (by kernel_rfl) ?_
 refine run_k (by kernel_rfl) ?_
 refine thenN ?_
 obtain ⟨r1,hr1,h⟩:=bindE h
 let v_5:AV:=.sl false (r1.map E_GVoice)
 let s_1:St:=⟨[(3,b_2),(2,b_0),(1,b_1),(0,.cells 11 [w_0])],5⟩
 refine run1z (c23 12) [{},{},{},{},{},{ c:=some (v_5,s_1) }] [2] [v_5] s_1 _ (by kernel_rfl) (cj1 (callF (f42_1_ok a0.sounding.l _ hr1) [(0,2)] [(2,0)] [3,1,0] [v_0] s_0 (v_5) s_1 (by kernel_rfl) (.k (.ms rfl rfl) .z) (.c (cleanMap _ _ cl_GVoice)) (.k rfl (.cells (.r (cleanMap _ _ cl_GCLive))) .z) (.f rfl (by kernel_rfl) (.d (x':=b_0) rfl (by kernel_rfl) (.cells (.r (cleanMap _ _ cl_GCLive))) (.f rfl (by kernel_rfl) (.f rfl (by kernel_rfl) .z)))))) ?_
 refine run_t (by kernel_rfl) ?_
 replace h:=Option.some.inj h; subst h
 exact fin_p [3,2,1,0] s_1 (by kernel_rfl) (by kernel_rfl) rfl ⟨rfl,rfl⟩
end Go.Proofs.Ytpljabnngpnieaa
