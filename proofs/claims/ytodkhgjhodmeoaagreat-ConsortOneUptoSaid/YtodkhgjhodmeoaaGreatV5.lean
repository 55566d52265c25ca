/-
 Functions of the program as Lean functions,and the walks. Written by a program of ours.
-/
import Derived.Test.YtodkhgjhodmeoaaGreatV4a
import Derived.Test.YtodkhgjhodmeoaaGreatV87
import Derived.Test.YtodkhgjhodmeoaaGreatV40
namespace Go.Proofs.YtodkhgjhodmeoaaGreat
open Go Go.Am
set_option maxRecDepth 100000
set_option linter.all false
noncomputable section
noncomputable def c86 (k:Nat):Code:=nthC (subs (Tryz.f86.body.getD .skip)) k
noncomputable def c35 (k:Nat):Code:=nthC (subs (Tryz.f35.body.getD .skip)) k
noncomputable def c139 (k:Nat):Code:=nthC (subs (Tryz.f139.body.getD .skip)) k
noncomputable def c91 (k:Nat):Code:=nthC (subs (Tryz.f91.body.getD .skip)) k
noncomputable def c37 (k:Nat):Code:=nthC (subs (Tryz.f37.body.getD .skip)) k
noncomputable def c39 (k:Nat):Code:=nthC (subs (Tryz.f39.body.getD .skip)) k
def f86 (a0:GConsort):Option Unit:=some ()
theorem f86_ok (a0:GConsort) (r:Unit) (h:f86 a0 = some r):ACalls Tryz.prog 86 [E_GConsort a0] ⟨[],0⟩ (fun y t=>y = .fn 139 [.mp 0 0 0] ∧ t = ⟨[(0,.cells 1 [E_GConsort a0])],1⟩):=by
 refine wf 4 [.tmp 2] (c86 0) ?_
 unfold f86 at h
 replace h:=Option.some.inj h; subst h
 exact wP 3 [] cj0 ⟨rfl,rfl⟩
def f139 (a0_e2:List GCue) (a0_e12_0:GConsort):Option (List GCue):=(loopN (σ:=(List GCue × Int)) (τ:=((List GCue) ⊕ (List GCue))) (fun ((l1_h1,l1_11):(List GCue × Int))=>bif (decide (l1_11 < (a0_e12_0.pieces.length:Int))) then ((ix a0_e12_0.pieces l1_11).bind fun y2=>(f41 y2).bind fun r3=>bif (decide (r3.2 ≠ 0)) then (some (.inr (.inr l1_h1))) else ((loopN (σ:=(List GCue × Int)) (τ:=((List GCue) ⊕ ((List GCue × Int) ⊕ ((List GCue) ⊕ (List GCue))))) (fun ((l2_h1,l2_26):(List GCue × Int))=>bif (decide (l2_26 < (y2.events.length:Int))) then ((ix r3.1 l2_26).bind fun y6=>((need (l2_h1.length + 1 ≤ maxElems) <| some ():Option Unit)).bind fun r7=>some (.inl ((l2_h1 ++ [(⟨y6,l1_11,l2_26⟩:GCue)]),(wr (l2_26 + 1))))) else (some (.inr (.inl l2_h1)))) FUEL (l1_h1,0)).bind (Sum.elim (fun (l2x_h1:(List GCue))=>some (.inl (l2x_h1,(wr (l1_11 + 1))))) some))) else (some (.inr (.inl l1_h1)))) FUEL (a0_e2,0)).bind (Sum.elim (fun (l1x_h1:(List GCue))=>some l1x_h1) some)
theorem f139_ok (a0_e2:List GCue) (a0_e12_0:GConsort) (r:(List GCue)) (h:f139 a0_e2 a0_e12_0 = some r):ACalls Tryz.prog 139 [.yld 0,.mp 3 0 0] ⟨[(3,.cells 1 [E_GConsort a0_e12_0]),(2,.cells 3 (a0_e2.map E_GCue)),(1,.cells 1 [.ms 2 0 a0_e2.length]),(0,.loop ⟨zipE [2,12] [.mp 1 0 0,.fn 139 [.mp 3 0 0]],21,[13],(c35 17),(c35 18),.ready,none⟩)],4⟩ (fun y t=>y = .tup [] ∧ t = ⟨[(6,.cells 3 (r.map E_GCue)),(3,.cells 1 [E_GConsort a0_e12_0]),(1,.cells 1 [.ms 6 0 r.length]),(0,.loop ⟨zipE [2,12] [.mp 1 0 0,.fn 139 [.mp 3 0 0]],21,[13],(c35 17),(c35 18),.ready,none⟩)],7⟩):=by
 refine wf 41 [] (c139 0) ?_
 unfold f139 at h
 obtain ⟨ol1x,hll1x,h⟩:=bindE h
 refine W 1 [.r [{},{},{ k:=1,n:=a0_e12_0.pieces.length }]] (cj1 (mapLen a0_e12_0.pieces E_GPiece)) ?_
 let w_0:AV:=.fn 139 [.mp 3 0 0]
 let b_0:Blk:=.cells 1 [E_GConsort a0_e12_0]
 refine wJ (fun (l1x_h1:(List GCue))=>(zipE [] [])) (fun (l1x_h1:(List GCue))=>⟨[(4,.cells 3 (l1x_h1.map E_GCue)),(3,b_0),(1,.cells 1 [.ms 4 0 l1x_h1.length]),(0,.loop ⟨zipE [2,12] [.mp 1 0 0,w_0],21,[13],(c35 17),(c35 18),.ready,none⟩)],5⟩) (fun j=>ol1x = .inl j) (fun kl1=>?_) ?_
 ·let v_0:AV:=.sl false (a0_e12_0.pieces.map E_GPiece)
  let v_1:AV:=.i (a0_e12_0.pieces.length:Int)
  refine wLi 1 [] cj0 hll1x 4 (fun ((l1_h1,l1_11):(List GCue × Int))=>(zipE [0,9,10,11] [.yld 0,v_0,v_1,.i l1_11])) (fun ((l1_h1,l1_11):(List GCue × Int))=>⟨[(4,.cells 3 (l1_h1.map E_GCue)),(3,b_0),(1,.cells 1 [.ms 4 0 l1_h1.length]),(0,.loop ⟨zipE [2,12] [.mp 1 0 0,w_0],21,[13],(c35 17),(c35 18),.ready,none⟩)],5⟩) [0,9,10,11] [.yld 0,v_0,v_1,.i 0] ⟨[(3,b_0),(2,.cells 3 (a0_e2.map E_GCue)),(1,.cells 1 [.ms 2 0 a0_e2.length]),(0,.loop ⟨zipE [2,12] [.mp 1 0 0,w_0],21,[13],(c35 17),(c35 18),.ready,none⟩)],4⟩ (see_into r0 (mkInto (L:=[(4,2)]) (base:=4) (ks:=[0,9,10,11]) (ys:=[.yld 0,v_0,v_1,.i 0]) (by kernel_rfl) (by kernel_rfl) (.k (.y rfl rfl) (.k (.c (cleanMap _ _ cl_GPiece)) (.k (.c rfl) (.k (.c rfl) .z)))) (.k rfl (.cells (.r (cleanMap _ _ cl_GCue))) (.k rfl (.cells (.k (.c (cl_GConsort a0_e12_0)) .z)) (.k rfl (.cells (.k (.ms rfl rfl) .z)) (.k rfl (.loop (ks:=[2,12]) (.k (.mp rfl rfl) (.k (.f (.k (.mp rfl rfl) .z)) .z))) .z)))))) ?_
  rintro ⟨l1_h1,l1_11⟩ out hl1 rl1 Kl1
  rcases iteE hl1 with ⟨hc1,hl1⟩ | ⟨hc1,hl1⟩
  ·obtain ⟨y2,hy2,hl1⟩:=bindE hl1
   obtain ⟨r3,hr3,hl1⟩:=bindE hl1
   let v_2:AV:=.sl false (r3.1.map AV.i)
   refine W 11 [.t,.r [{},{ k:=1,x:=E_GPiece y2 }],.r [{},{ k:=7,x:=.tup [v_2,.i r3.2] }]] (cjC hc1 (cjC ((ixE hy2).1) (cjC (mapGet E_GPiece (ixE hy2).2) (cj1 (f41_ok y2 _ hr3))))) ?_
   rcases iteE hl1 with ⟨hc4,hl1⟩ | ⟨hc4,hl1⟩
   ·replace hl1:=Option.some.inj hl1; subst hl1
    have hr:=rl1 _ rfl
    subst hr
    replace h:=elimR h
    refine wT 1 [.t] (cj1 hc4) [] [] ⟨[(5,.cells 3 [E_GPiece y2]),(4,.cells 3 (l1_h1.map E_GCue)),(3,b_0),(1,.cells 1 [.ms 4 0 l1_h1.length]),(0,.loop ⟨zipE [2,12] [.mp 1 0 0,w_0],21,[13],(c35 17),(c35 18),.ready,none⟩)],6⟩ (wI 6 [(6,4)] [] [] (xs:=[]) (S2:=⟨[(6,.cells 3 (l1_h1.map E_GCue)),(3,b_0),(1,.cells 1 [.ms 6 0 l1_h1.length]),(0,.loop ⟨zipE [2,12] [.mp 1 0 0,w_0],21,[13],(c35 17),(c35 18),.ready,none⟩)],7⟩) ?_ r0 .z (.k rfl (.cells (.r (cleanMap _ _ cl_GCue))) (.k rfl (.cells (.k (.c (cl_GConsort a0_e12_0)) .z)) (.k rfl (.cells (.k (.ms rfl rfl) .z)) (.k rfl (.loop (ks:=[2,12]) (.k (.mp rfl rfl) (.k (.f (.k (.mp rfl rfl) .z)) .z))) .z)))))
    replace h:=Option.some.inj h; subst h
    exact wP 6 [] (cj1 (Kl1.o _ rfl)) ⟨rfl,rfl⟩
   ·obtain ⟨ol2x,hll2x,hl1⟩:=bindE hl1
    refine W 4 [.f,.r [{},{},{ k:=1,n:=y2.events.length }]] (cjC hc4 (cj1 (mapLen y2.events E_GEvent))) ?_
    refine wJ (fun (l2x_h1:(List GCue))=>(zipE [0,9,10,11] [.yld 0,v_0,v_1,.i l1_11])) (fun (l2x_h1:(List GCue))=>⟨[(6,.cells 3 (l2x_h1.map E_GCue)),(3,b_0),(1,.cells 1 [.ms 6 0 l2x_h1.length]),(0,.loop ⟨zipE [2,12] [.mp 1 0 0,w_0],21,[13],(c35 17),(c35 18),.ready,none⟩)],7⟩) (fun j=>ol2x = .inl j) (fun kl2=>?_) ?_
    ·let v_3:AV:=.i (y2.events.length:Int)
     refine wLi 1 [] cj0 hll2x 6 (fun ((l2_h1,l2_26):(List GCue × Int))=>(zipE [0,3,5,9,10,11,25,26] [.yld 0,.i l1_11,v_2,v_0,v_1,.i l1_11,v_3,.i l2_26])) (fun ((l2_h1,l2_26):(List GCue × Int))=>⟨[(6,.cells 3 (l2_h1.map E_GCue)),(3,b_0),(1,.cells 1 [.ms 6 0 l2_h1.length]),(0,.loop ⟨zipE [2,12] [.mp 1 0 0,w_0],21,[13],(c35 17),(c35 18),.ready,none⟩)],7⟩) [0,3,5,9,10,11,25,26] [.yld 0,.i l1_11,v_2,v_0,v_1,.i l1_11,v_3,.i 0] ⟨[(4,.cells 3 (l1_h1.map E_GCue)),(3,b_0),(1,.cells 1 [.ms 4 0 l1_h1.length]),(0,.loop ⟨zipE [2,12] [.mp 1 0 0,w_0],21,[13],(c35 17),(c35 18),.ready,none⟩)],6⟩ (see_into r0 (mkInto (L:=[(6,4)]) (base:=6) (ks:=[0,3,5,9,10,11,25,26]) (ys:=[.yld 0,.i l1_11,v_2,v_0,v_1,.i l1_11,v_3,.i 0]) (by kernel_rfl) (by kernel_rfl) (.k (.y rfl rfl) (.k (.c rfl) (.k (.c (cleanMap _ _ cl_i)) (.k (.c (cleanMap _ _ cl_GPiece)) (.k (.c rfl) (.k (.c rfl) (.k (.c rfl) (.k (.c rfl) .z)))))))) (.k rfl (.cells (.r (cleanMap _ _ cl_GCue))) (.k rfl (.cells (.k (.c (cl_GConsort a0_e12_0)) .z)) (.k rfl (.cells (.k (.ms rfl rfl) .z)) (.k rfl (.loop (ks:=[2,12]) (.k (.mp rfl rfl) (.k (.f (.k (.mp rfl rfl) .z)) .z))) .z)))))) ?_
     rintro ⟨l2_h1,l2_26⟩ out hl2 rl2 Kl2
     rcases iteE hl2 with ⟨hc5,hl2⟩ | ⟨hc5,hl2⟩
     ·obtain ⟨y6,hy6,hl2⟩:=bindE hl2
      obtain ⟨r7,hr7,hl2⟩:=bindE hl2
      have hYr7:AYield Tryz.prog 0 [.agg [.i y6,.i l1_11,.i l2_26]] ⟨[(6,.cells 3 (l2_h1.map E_GCue)),(3,.cells 1 [E_GConsort a0_e12_0]),(1,.cells 1 [.ms 6 0 l2_h1.length]),(0,.loop ⟨zipE [2,12] [.mp 1 0 0,.fn 139 [.mp 3 0 0]],21,[13],(c35 17),(c35 18),.ready,none⟩)],7⟩ (fun y t=>y = .bool true ∧ t = ⟨[(8,.cells 3 ((l2_h1 ++ [(⟨y6,l1_11,l2_26⟩:GCue)]).map E_GCue)),(3,.cells 1 [E_GConsort a0_e12_0]),(1,.cells 1 [.ms 8 0 (l2_h1 ++ [(⟨y6,l1_11,l2_26⟩:GCue)]).length]),(0,.loop ⟨zipE [2,12] [.mp 1 0 0,.fn 139 [.mp 3 0 0]],21,[13],(c35 17),(c35 18),.ready,none⟩)],9⟩):=by
       let w_1:AV:=.agg [.i y6,.i l1_11,.i l2_26]
       refine run_y ⟨zipE [2,12] [.mp 1 0 0,w_0],21,[13],(c35 17),(c35 18),.ready,none⟩ (putParams [13] [w_1] (zipE [2,12] [.mp 1 0 0,w_0])) (by kernel_rfl) rfl (by kernel_rfl) ?_
       refine run0z [] [2,5,12] [.mp 1 0 0,.mp 7 0 0,w_0] ⟨[(7,.cells 3 [w_1]),(6,.cells 3 (l2_h1.map E_GCue)),(3,b_0),(1,.cells 1 [.ms 6 0 l2_h1.length]),(0,.loop ⟨zipE [2,12] [.mp 1 0 0,w_0],21,[13],(c35 17),(c35 18),.ready,none⟩)],8⟩ _ (by kernel_rfl) cj0 ?_
       refine thenN ⟨⟨zipE [2,12] [.mp 1 0 0,w_0],21,[13],(c35 17),(c35 18),.ready,none⟩,by kernel_rfl,rfl,?_⟩
       refine awp_post (by intro i e; cases e <;> exact Nat.le_of_ble_eq_true rfl) ?_
       refine run_b 1 (c35 19) (by kernel_rfl) ?_
       obtain ⟨hn8,hr7⟩:=needE hr7
       let b_1:Blk:=.cells 1 [.ms 8 0 (l2_h1 ++ [(⟨y6,l1_11,l2_26⟩:GCue)]).length]
       let b_3:Blk:=.cells 3 ((l2_h1 ++ [(⟨y6,l1_11,l2_26⟩:GCue)]).map E_GCue)
       let s_0:St:=⟨[(8,b_3),(3,b_0),(1,b_1),(0,.loop ⟨zipE [2,12] [.mp 1 0 0,w_0],21,[13],(c35 17),(c35 18),.busy,none⟩)],9⟩
       refine run0z [{},{},{},{ k:=1,n:=(l2_h1 ++ [(⟨y6,l1_11,l2_26⟩:GCue)]).length,l:=(l2_h1 ++ [(⟨y6,l1_11,l2_26⟩:GCue)]).map E_GCue }] [2,12] [.mp 1 0 0,w_0] s_0 _ (by kernel_rfl) (cjC (@List.cons_ne_nil AV (w_1) []) (cjC (mLe l2_h1 E_GCue) (cjC (hn8) (cjC (lenA l2_h1 ([(⟨y6,l1_11,l2_26⟩:GCue)]:List GCue)) (cjC (appA l2_h1 ([(⟨y6,l1_11,l2_26⟩:GCue)]:List GCue) E_GCue) (cj1 (fitsOne (P:=Tryz.prog) (t:=62) (x:=w_1) (r:=[]) (by kernel_rfl)))))))) ?_
       replace hr7:=Option.some.inj hr7; subst hr7
       refine inbN ?_
       exact ⟨9,pi [],zipE [] [],s_0,Nat.le_of_ble_eq_true rfl,mkInto (ks:=[]) (ys:=[]) (by kernel_rfl) (by kernel_rfl) .z (.k rfl (.cells (.r (cleanMap _ _ cl_GCue))) (.k rfl (.cells (.k (.c (cl_GConsort a0_e12_0)) .z)) (.k rfl (.cells (.k (.ms rfl rfl) .z)) (.k rfl (.loop (ks:=[2,12]) (.k (.mp rfl rfl) (.k (.f (.k (.mp rfl rfl) .z)) .z))) .z)))),⟨zipE [2,12] [.mp 1 0 0,w_0],21,[13],(c35 17),(c35 18),.busy,none⟩,by kernel_rfl,rfl,by kernel_rfl⟩
      replace hl2:=Option.some.inj hl2; subst hl2
      let b_2:Blk:=.cells 1 [.ms 8 0 (l2_h1 ++ [(⟨y6,l1_11,l2_26⟩:GCue)]).length]
      let b_4:Blk:=.cells 3 ((l2_h1 ++ [(⟨y6,l1_11,l2_26⟩:GCue)]).map E_GCue)
      let s_1:St:=⟨[(8,b_4),(3,b_0),(1,b_2),(0,.loop ⟨zipE [2,12] [.mp 1 0 0,w_0],21,[13],(c35 17),(c35 18),.ready,none⟩)],9⟩
      exact wN 14 [.t,.n,.r [{},{},{},{ k:=1,x:=AV.i y6 },{},{},{},{},{ c:=some (.bool true,s_1) }],.f] (cjC hc5 (cjC ((ixE hy6).1) (cjC (mapGet AV.i (ixE hy6).2) (cjC hYr7 (cj1 (Eq.refl false)))))) [0,3,5,9,10,11,25,26] [.yld 0,.i l1_11,v_2,v_0,v_1,.i l1_11,v_3,.i (wr (l2_26 + 1))] s_1 Kl2 rfl (see_into r0 (mkInto (L:=[(6,8)]) (ks:=[0,3,5,9,10,11,25,26]) (ys:=[.yld 0,.i l1_11,v_2,v_0,v_1,.i l1_11,v_3,.i (wr (l2_26 + 1))]) (by kernel_rfl) (by kernel_rfl) (.k (.y rfl rfl) (.k (.c rfl) (.k (.c (cleanMap _ _ cl_i)) (.k (.c (cleanMap _ _ cl_GPiece)) (.k (.c rfl) (.k (.c rfl) (.k (.c rfl) (.k (.c rfl) .z)))))))) (.k rfl (.cells (.r (cleanMap _ _ cl_GCue))) (.k rfl (.cells (.k (.c (cl_GConsort a0_e12_0)) .z)) (.k rfl (.cells (.k (.ms rfl rfl) .z)) (.k rfl (.loop (ks:=[2,12]) (.k (.mp rfl rfl) (.k (.f (.k (.mp rfl rfl) .z)) .z))) .z))))))
     ·replace hl2:=Option.some.inj hl2; subst hl2
      have hr:=rl2 _ rfl
      subst hr
      exact wX 7 [.f] (cjC hc5 (cj1 (Kl2.o _ rfl))) (kl2 l2_h1 rfl)
    ·rintro l2x_h1 rfl
     replace hl1:=elimL hl1
     replace hl1:=Option.some.inj hl1; subst hl1
     exact wN 3 [] cj0 [0,9,10,11] [.yld 0,v_0,v_1,.i (wr (l1_11 + 1))] ⟨[(6,.cells 3 (l2x_h1.map E_GCue)),(3,b_0),(1,.cells 1 [.ms 6 0 l2x_h1.length]),(0,.loop ⟨zipE [2,12] [.mp 1 0 0,w_0],21,[13],(c35 17),(c35 18),.ready,none⟩)],7⟩ Kl1 rfl (see_into r0 (mkInto (L:=[(4,6)]) (ks:=[0,9,10,11]) (ys:=[.yld 0,v_0,v_1,.i (wr (l1_11 + 1))]) (by kernel_rfl) (by kernel_rfl) (.k (.y rfl rfl) (.k (.c (cleanMap _ _ cl_GPiece)) (.k (.c rfl) (.k (.c rfl) .z)))) (.k rfl (.cells (.r (cleanMap _ _ cl_GCue))) (.k rfl (.cells (.k (.c (cl_GConsort a0_e12_0)) .z)) (.k rfl (.cells (.k (.ms rfl rfl) .z)) (.k rfl (.loop (ks:=[2,12]) (.k (.mp rfl rfl) (.k (.f (.k (.mp rfl rfl) .z)) .z))) .z))))))
  ·replace hl1:=Option.some.inj hl1; subst hl1
   have hr:=rl1 _ rfl
   subst hr
   exact wX 7 [.f] (cjC hc1 (cj1 (Kl1.o _ rfl))) (kl1 l1_h1 rfl)
 ·rintro l1x_h1 rfl
  replace h:=elimL h
  let b_5:Blk:=.cells 3 (l1x_h1.map E_GCue)
  refine wT 0 [] cj0 [] [] ⟨[(4,b_5),(3,b_0),(1,.cells 1 [.ms 4 0 l1x_h1.length]),(0,.loop ⟨zipE [2,12] [.mp 1 0 0,w_0],21,[13],(c35 17),(c35 18),.ready,none⟩)],5⟩ (wI 5 [(6,4)] [] [] (xs:=[]) (S2:=⟨[(6,b_5),(3,b_0),(1,.cells 1 [.ms 6 0 l1x_h1.length]),(0,.loop ⟨zipE [2,12] [.mp 1 0 0,w_0],21,[13],(c35 17),(c35 18),.ready,none⟩)],7⟩) ?_ r0 .z (.k rfl (.cells (.r (cleanMap _ _ cl_GCue))) (.k rfl (.cells (.k (.c (cl_GConsort a0_e12_0)) .z)) (.k rfl (.cells (.k (.ms rfl rfl) .z)) (.k rfl (.loop (ks:=[2,12]) (.k (.mp rfl rfl) (.k (.f (.k (.mp rfl rfl) .z)) .z))) .z)))))
  replace h:=Option.some.inj h; subst h
  exact wP 0 [] cj0 ⟨rfl,rfl⟩
def f35 (a0:GConsort):Option (((List GCue)) × Int):=(f30 a0).bind fun r1=>bif (decide (r1 ≠ 0)) then (some (([]:List GCue),r1)) else ((f86 a0).bind fun r4=>(f139 ([]:List GCue) a0).bind fun r5=>(f87 r5).bind fun r6=>need (r6.length = r5.length) <| some (r6,0))
theorem f35_ok (a0:GConsort) (r:(((List GCue)) × Int)) (h:f35 a0 = some r):APure Tryz.prog 35 [E_GConsort a0] (.tup [.sl false (r.1.map E_GCue),.i r.2]):=by
 refine apure (clK (cl_GConsort a0) clZ) (clK (cleanMap r.1 _ cl_GCue) (clK rfl clZ)) ?_
 refine run_f 21 [.cell 2 58,.tmp 3] (c35 0) (zipE [0] [E_GConsort a0]) (by kernel_rfl) (by kernel_rfl) (by kernel_rfl) rfl ?_
 unfold f35 at h
 let b_0:Blk:=.cells 1 [E_GConsort a0]
 let b_1:Blk:=.cells 1 [.sl true []]
 let s_0:St:=⟨[(1,b_1),(0,b_0)],2⟩
 refine run1z (c35 2) [] [1,2] [.mp 0 0 0,.mp 1 0 0] s_0 _ (by kernel_rfl) cj0 ?_
 refine run_s (c35 3) (c35 12) (by kernel_rfl) ?_
 obtain ⟨r1,hr1,h⟩:=bindE h
 refine run1z (c35 5) [{},{ c:=some (.i r1,s_0) }] [1,2,4] [.mp 0 0 0,.mp 1 0 0,.i r1] s_0 _ (by kernel_rfl) (cj1 (f30_ok a0 _ hr1 s_0)) ?_
 let v_0:AV:=.bool (decide (r1 ≠ 0))
 refine run1z (c35 7) [] [1,2,4,9] [.mp 0 0 0,.mp 1 0 0,.i r1,v_0] s_0 _ (by kernel_rfl) cj0 ?_
 rcases iteE h with ⟨hc2,h⟩ | ⟨hc2,h⟩
 ·refine run_cT 9 (c35 8) (c35 11) (decide (r1 ≠ 0)) hc2 (by kernel_rfl) (by kernel_rfl) ?_
  refine run1z (c35 10) [] [2,3] [.mp 1 0 0,.i r1] ⟨[(1,b_1)],2⟩ _ (by kernel_rfl) cj0 ?_
  refine run_i 2 [] [2,3] [.mp 1 0 0,.i r1] (xs:=[.mp 1 0 0,.i r1]) (S2:=⟨[(1,.cells 1 [.sl false (([]:List GCue).map E_GCue)])],2⟩) ?_ (by intro i e; cases e <;> exact Nat.le_of_ble_eq_true rfl) (by kernel_rfl) (by kernel_rfl) (by kernel_rfl) (.k (.mp rfl rfl) (.k (.c rfl) .z)) (.k rfl (.cells (.k (.s (cleanMap (([]:List GCue)) _ cl_GCue)) .z)) .z)
  refine run_t (by kernel_rfl) ?_
  refine thenR ?_
  replace h:=Option.some.inj h; subst h
  exact fin_r (by kernel_rfl) rfl
 ·refine run_cF 9 (c35 8) (c35 11) (decide (r1 ≠ 0)) hc2 (by kernel_rfl) (by kernel_rfl) ?_
  refine run_k (by kernel_rfl) ?_
  refine thenN ?_
  refine run_s (c35 13) (c35 20) (by kernel_rfl) ?_
  let b_2:Blk:=.cells 1 [.ms 2 0 ([]:List GCue).length]
  let b_3:Blk:=.cells 3 (([]:List GCue).map E_GCue)
  let s_1:St:=⟨[(2,b_3),(1,b_2),(0,b_0)],3⟩
  refine run_i 2 [(2,1000000)] [1,2,4,9] [.mp 0 0 0,.mp 1 0 0,.i r1,v_0] (xs:=[.mp 0 0 0,.mp 1 0 0,.i r1,v_0]) (S2:=s_1) ?_ (by intro i e; cases e <;> exact Nat.le_of_ble_eq_true rfl) (by kernel_rfl) (by kernel_rfl) (by kernel_rfl) (.k (.mp rfl rfl) (.k (.mp rfl rfl) (.k (.c rfl) (.k (.c rfl) .z)))) (.n rfl rfl rfl (.k rfl (.cells (.k (.n) .z)) (.k rfl (.cells (.k (.c (cl_GConsort a0)) .z)) .z)))
  obtain ⟨r4,hr4,h⟩:=bindE h
  let w_0:AV:=.fn 139 [.mp 3 0 0]
  let s_2:St:=⟨[(3,b_0),(2,b_3),(1,b_2),(0,b_0)],4⟩
  refine run1z (c35 15) [{},{ c:=some (w_0,s_2) }] [2,12] [.mp 1 0 0,w_0] ⟨[(3,b_0),(2,b_3),(1,b_2)],4⟩ _ (by kernel_rfl) (cj1 (callF (f86_ok a0 _ hr4) [] [(3,0)] [2,1,0] [E_GConsort a0] s_1 (w_0) s_2 (by kernel_rfl) (.k (.c (cl_GConsort a0)) .z) (.f (.k (.mp rfl rfl) .z)) .z (.d (x':=b_0) rfl (by kernel_rfl) (.cells (.k (.c (cl_GConsort a0)) .z)) (.f rfl (by kernel_rfl) (.f rfl (by kernel_rfl) (.f rfl (by kernel_rfl) .z)))))) ?_
  refine run_b 0 (c35 16) (by kernel_rfl) ?_
  obtain ⟨r5,hr5,h⟩:=bindE h
  let v_1:AV:=.ms 8 0 r5.length
  let b_4:Blk:=.cells 3 (r5.map E_GCue)
  let s_3:St:=⟨[(8,b_4),(5,.loop ⟨zipE [2,12] [.mp 1 0 0,w_0],21,[13],(c35 17),(c35 18),.ready,none⟩),(3,b_0),(1,.cells 1 [v_1])],9⟩
  refine run_rf (g:=.tmp 12) (ps:=[13]) (assign:=(c35 17)) (body:=(c35 18)) (gf:=139) (caps:=[.mp 3 0 0]) (v:=.tup []) (s':=s_3) (by kernel_rfl) (by kernel_rfl) (by kernel_rfl) (callF (f139_ok ([]:List GCue) a0 _ hr5) [(0,5),(1,1),(2,2),(3,3)] [(8,6),(3,3),(1,1),(5,0)] [] [.yld 5,.mp 3 0 0] ⟨[(5,.loop ⟨zipE [2,12] [.mp 1 0 0,w_0],21,[13],(c35 17),(c35 18),.ready,none⟩),(3,b_0),(2,b_3),(1,b_2)],6⟩ (.tup []) s_3 (by kernel_rfl) (.k (.y rfl rfl) (.k (.mp rfl rfl) .z)) (.t .z) (.k rfl (.cells (.k (.c (cl_GConsort a0)) .z)) (.k rfl (.cells (.r (cleanMap _ _ cl_GCue))) (.k rfl (.cells (.k (.ms rfl rfl) .z)) (.k rfl (.loop (ks:=[2,12]) (.k (.mp rfl rfl) (.k (.f (.k (.mp rfl rfl) .z)) .z))) .z)))) (.d (x':=b_4) rfl (by kernel_rfl) (.cells (.r (cleanMap _ _ cl_GCue))) (.d (x':=.loop ⟨zipE [2,12] [.mp 1 0 0,w_0],21,[13],(c35 17),(c35 18),.ready,none⟩) rfl (by kernel_rfl) (.loop (ks:=[2,12]) (.k (.mp rfl rfl) (.k (.f (.k (.mp rfl rfl) .z)) .z))) (.d (x':=b_0) rfl (by kernel_rfl) (.cells (.k (.c (cl_GConsort a0)) .z)) (.d (x':=.cells 1 [.ms 6 0 r5.length]) rfl (by kernel_rfl) (.cells (.k (.ms rfl rfl) .z)) .z))))) ⟨zipE [2,12] [.mp 1 0 0,w_0],21,[13],(c35 17),(c35 18),.ready,none⟩ (by kernel_rfl) (by intro e; cases e) rfl ?_
  refine inbN ?_
  refine thenN ?_
  obtain ⟨r6,hr6,h⟩:=bindE h
  obtain ⟨hn7,h⟩:=needE h
  let b_5:Blk:=.cells 3 (r6.map E_GCue)
  let s_4:St:=⟨[(8,b_5),(4,.dfr),(3,b_0),(1,.cells 1 [v_1])],9⟩
  refine run1z (c35 22) [{},{ c:=some (.tup [],s_4) }] [2] [.mp 1 0 0] ⟨[(8,b_5),(4,.dfr),(1,.cells 1 [v_1])],9⟩ _ (by kernel_rfl) (cj1 (callF (f87_ok r5 _ hr6) [(0,8)] [(8,0)] [4,3,1] [v_1,.fn 88 []] ⟨[(4,.dfr),(8,b_4),(3,b_0),(1,.cells 1 [v_1])],9⟩ (.tup []) s_4 (by kernel_rfl) (.k (.ms rfl rfl) (.k (.c rfl) .z)) (.t .z) (.k rfl (.cells (.r (cleanMap _ _ cl_GCue))) .z) (.d (x':=b_5) rfl (by kernel_rfl) (.cells (.r (cleanMap _ _ cl_GCue))) (.f rfl (by kernel_rfl) (.f rfl (by kernel_rfl) (.f rfl (by kernel_rfl) .z)))))) ?_
  let v_2:AV:=.ms 8 0 r6.length
  let s_5:St:=⟨[(8,b_5),(4,.dfr),(1,.cells 1 [v_2])],9⟩
  refine run_i 9 [] [2] [.mp 1 0 0] (xs:=[.mp 1 0 0]) (S2:=s_5) ?_ (by intro i e; cases e <;> exact Nat.le_of_ble_eq_true rfl) (by kernel_rfl) (by kernel_rfl) (by kernel_rfl) (.k (.mp rfl rfl) .z) (.k rfl (.cells (.r (cleanMap _ _ cl_GCue))) (.k rfl .dfr (.k rfl (.cells (.k (.e rfl rfl hn7) .z)) .z)))
  refine run1z (c35 24) [] [2,3] [.mp 1 0 0,.i 0] s_5 _ (by kernel_rfl) cj0 ?_
  refine run_z 8 3 (r6.map E_GCue) [2,3] [.mp 1 0 0,.i 0] (xs:=[.mp 1 0 0,.i 0]) (S2:=⟨[(4,.dfr),(1,.cells 1 [.sl false (r6.map E_GCue)])],9⟩) ?_ (by kernel_rfl) (by kernel_rfl) (.k (.r _) (.k (.r _) .z)) (.k (x':=.dfr) rfl (by kernel_rfl) (.r _) (.k (x':=.cells 1 [v_2]) rfl (by kernel_rfl) (.cells (.k (.m (mLe r6 E_GCue) (mapAll r6 E_GCue)) .z)) .z)) rfl rfl
  refine run_t (by kernel_rfl) ?_
  replace h:=Option.some.inj h; subst h
  exact fin_r (by kernel_rfl) rfl
def f91 (a0:GTone) (a1:GTone):Option Int:=(f89 a0.from_ a1.from_).bind fun r1=>(f89 a0.pitch a1.pitch).bind fun r2=>(f89 a0.to_ a1.to_).bind fun r3=>(f92 ([r1,r2,r3]:List Int)).bind fun r4=>some r4
theorem f91_ok (a0:GTone) (a1:GTone) (r:Int) (h:f91 a0 a1 = some r):APure Tryz.prog 91 [E_GTone a0,E_GTone a1] (.i r):=by
 refine apure (clK (cl_GTone a0) (clK (cl_GTone a1) clZ)) rfl ?_
 refine wf 22 [.tmp 4] (c91 0) ?_
 unfold f91 at h
 obtain ⟨r1,hr1,h⟩:=bindE h
 obtain ⟨r2,hr2,h⟩:=bindE h
 obtain ⟨r3,hr3,h⟩:=bindE h
 obtain ⟨r4,hr4,h⟩:=bindE h
 replace h:=Option.some.inj h; subst h
 exact wR 3 [.n,.r [{},{},{},{},{},{},{},{},{},{},{},{},{ k:=7,x:=.i r1 },{ k:=7,x:=.i r2 },{ k:=7,x:=.i r3 },{},{ k:=7,x:=.i r4 }]] (cjC (f89_ok a0.from_ a1.from_ _ hr1) (cjC (@Eq.refl AV (.i a0.pitch)) (cjC (@Eq.refl AV (.i a1.pitch)) (cjC (@Eq.refl AV (.i a0.to_)) (cjC (@Eq.refl AV (.i a1.to_)) (cjC (f89_ok a0.pitch a1.pitch _ hr2) (cjC (@Eq.refl AV (.i a0.to_)) (cjC (@Eq.refl AV (.i a1.to_)) (cjC (f89_ok a0.to_ a1.to_ _ hr3) (cj1 (APure.co (ok:=fun _=>false) (π:=id) (args:=[.sl true [.i r1,.i r2,.i r3]]) (f92_ok ([r1,r2,r3]:List Int) _ hr4) (.k (.s (cleanMap (([r1,r2,r3]:List Int)) _ cl_i)) .z))))))))))))
def f90_1 (a0:List GTone):Option (List GTone):=sortF f91 a0
theorem f90_1_ok (a0:List GTone) (r:List GTone) (h:f90_1 a0 = some r):ACalls Tryz.prog 90 [.ms 0 0 a0.length,.fn 91 []] ⟨[(0,.cells 3 (a0.map E_GTone))],1⟩ (fun y t=>y = .tup [] ∧ t = ⟨[(0,.cells 3 (r.map E_GTone))],1⟩) :=
 sortf_calls lay_sortf90 (by decide) Tryz.isAgg152 Tryz.sizeOf152 (fun (x:GTone)=>[x.pitch,x.from_,x.to_]) (fun _=>rfl) (fun _=>rfl) Tryz.func91 (by kernel_rfl) rfl (fun x y r h=>f91_ok x y r h) a0 r h
def f37 (a0:GConsort):Option (((List GTone)) × Int):=(f30 a0).bind fun r1=>bif (decide (r1 ≠ 0)) then (some (([]:List GTone),r1)) else ((loopN (σ:=(List GTone × Int)) (τ:=((List GTone) ⊕ (((List GTone)) × Int))) (fun ((l1_2,l1_17):(List GTone × Int))=>bif (decide (l1_17 < (a0.pieces.length:Int))) then ((ix a0.pieces l1_17).bind fun y4=>(f40 y4).bind fun r5=>bif (decide (r5.2 ≠ 0)) then (some (.inr (.inr (([]:List GTone),r5.2)))) else (((bif (decide (r5.1 = [])) then (some l1_2) else (need (l1_2.length + r5.1.length ≤ maxElems) <| some (l1_2 ++ r5.1))):Option (List GTone)).bind fun (j2_2:(List GTone))=>some (.inl (j2_2,(wr (l1_17 + 1)))))) else (some (.inr (.inl l1_2)))) FUEL (([]:List GTone),0)).bind (Sum.elim (fun (l1x_2:(List GTone))=>(f90_1 l1x_2).bind fun r9=>need (r9.length = l1x_2.length) <| some (r9,0)) some))
theorem f37_ok (a0:GConsort) (r:(((List GTone)) × Int)) (h:f37 a0 = some r):APure Tryz.prog 37 [E_GConsort a0] (.tup [.sl false (r.1.map E_GTone),.i r.2]):=by
 refine apure (clK (cl_GConsort a0) clZ) (clK (cleanMap r.1 _ cl_GTone) (clK rfl clZ)) ?_
 refine wf 36 [.tmp 2,.tmp 3] (c37 0) ?_
 unfold f37 at h
 obtain ⟨r1,hr1,h⟩:=bindE h
 refine W 4 [.n,.r [{},{ k:=7,x:=.i r1 }]] (cj1 (f30_ok a0 _ hr1)) ?_
 rcases iteE h with ⟨hc2,h⟩ | ⟨hc2,h⟩
 ·refine wT 2 [.t] (cj1 hc2) [2,3] [.sl true [],.i r1] ⟨[],1⟩ (wI 1 [] [2,3] [.sl true [],.i r1] (xs:=[.sl false (([]:List GTone).map E_GTone),.i r1]) (S2:=⟨[],1⟩) ?_ r0 (.k (.s (cleanMap (([]:List GTone)) _ cl_GTone)) (.k (.c rfl) .z)) .z)
  replace h:=Option.some.inj h; subst h
  exact wR 2 [] cj0
 ·obtain ⟨ol1x,hll1x,h⟩:=bindE h
  refine W 5 [.f,.r [{},{},{ k:=1,n:=a0.pieces.length }]] (cjC hc2 (cj1 (mapLen a0.pieces E_GPiece))) ?_
  refine wJ (fun (l1x_2:(List GTone))=>(zipE [2] [.ms 1 0 l1x_2.length])) (fun (l1x_2:(List GTone))=>⟨[(1,.cells 3 (l1x_2.map E_GTone))],2⟩) (fun j=>ol1x = .inl j) (fun kl1=>?_) ?_
  ·let v_0:AV:=.sl false (a0.pieces.map E_GPiece)
   let v_1:AV:=.i (a0.pieces.length:Int)
   refine wLi 1 [] cj0 hll1x 1 (fun ((l1_2,l1_17):(List GTone × Int))=>(zipE [2,15,16,17] [.ms 1 0 l1_2.length,v_0,v_1,.i l1_17])) (fun ((l1_2,l1_17):(List GTone × Int))=>⟨[(1,.cells 3 (l1_2.map E_GTone))],2⟩) [2,15,16,17] [.sl true [],v_0,v_1,.i 0] ⟨[],1⟩ (see_into r0 (mkInto (L:=[(1,1000000)]) (base:=1) (ks:=[2,15,16,17]) (ys:=[.sl true [],v_0,v_1,.i 0]) (by kernel_rfl) (by kernel_rfl) (.k (.n) (.k (.c (cleanMap _ _ cl_GPiece)) (.k (.c rfl) (.k (.c rfl) .z)))) (.n rfl rfl rfl .z))) ?_
   rintro ⟨l1_2,l1_17⟩ out hl1 rl1 Kl1
   rcases iteE hl1 with ⟨hc3,hl1⟩ | ⟨hc3,hl1⟩
   ·obtain ⟨y4,hy4,hl1⟩:=bindE hl1
    obtain ⟨r5,hr5,hl1⟩:=bindE hl1
    refine W 11 [.t,.r [{ k:=1,x:=E_GPiece y4 }],.r [{},{ k:=7,x:=.tup [.sl false (r5.1.map E_GTone),.i r5.2] }]] (cjC hc3 (cjC ((ixE hy4).1) (cjC (mapGet E_GPiece (ixE hy4).2) (cj1 (f40_ok y4 _ hr5))))) ?_
    rcases iteE hl1 with ⟨hc6,hl1⟩ | ⟨hc6,hl1⟩
    ·replace hl1:=Option.some.inj hl1; subst hl1
     have hr:=rl1 _ rfl
     subst hr
     replace h:=elimR h
     refine wT 2 [.t] (cj1 hc6) [2,3] [.sl true [],.i r5.2] ⟨[],3⟩ (wI 3 [] [2,3] [.sl true [],.i r5.2] (xs:=[.sl false (([]:List GTone).map E_GTone),.i r5.2]) (S2:=⟨[],3⟩) ?_ r0 (.k (.s (cleanMap (([]:List GTone)) _ cl_GTone)) (.k (.c rfl) .z)) .z)
     replace h:=Option.some.inj h; subst h
     exact wR 7 [] (cj1 (Kl1.o _ rfl))
    ·obtain ⟨j2_2,hj2,hl1⟩:=bindE hl1
     refine W 3 [.f] (cj1 hc6) ?_
     refine wJ (fun (j2_2:(List GTone))=>(zipE [2,15,16,17] [.ms 4 0 j2_2.length,v_0,v_1,.i l1_17])) (fun (j2_2:(List GTone))=>⟨[(4,.cells 3 (j2_2.map E_GTone))],5⟩) (fun j=>j2_2 = j) (fun kj2=>?_) ?_
     ·rcases iteE hj2 with ⟨hc7,hj2⟩ | ⟨hc7,hj2⟩
      ·replace hj2:=Option.some.inj hj2; subst hj2
       exact wXi 1 [.r [{},{},{ k:=2 }]] (cjC (mapNil E_GTone (of_decide_eq_true hc7)) (cj1 (fitsMap (P:=Tryz.prog) (t:=152) (k:=3) r5.1 E_GTone (by kernel_rfl) sz_GTone))) [2,15,16,17] [.ms 1 0 l1_2.length,v_0,v_1,.i l1_17] ⟨[(1,.cells 3 (l1_2.map E_GTone))],3⟩ 4 [(4,1)] (kj2 l1_2 rfl) r0 (.k (.ms rfl rfl) (.k (.c (cleanMap _ _ cl_GPiece)) (.k (.c rfl) (.k (.c rfl) .z)))) (.k rfl (.cells (.r (cleanMap _ _ cl_GTone))) .z)
      ·obtain ⟨hn8,hj2⟩:=needE hj2
       replace hj2:=Option.some.inj hj2; subst hj2
       exact wXi 1 [.r [{},{},{ k:=1,n:=(l1_2 ++ r5.1).length,l:=(l1_2 ++ r5.1).map E_GTone }]] (cjC (mapNe E_GTone (of_decide_eq_false hc7)) (cjC (mLe l1_2 E_GTone) (cjC (bnd1 E_GTone hn8) (cjC (len1 l1_2 r5.1 E_GTone) (cjC (app1 l1_2 r5.1 E_GTone) (cj1 (fitsMap (P:=Tryz.prog) (t:=152) (k:=3) r5.1 E_GTone (by kernel_rfl) sz_GTone))))))) [2,15,16,17] [.ms 3 0 (l1_2 ++ r5.1).length,v_0,v_1,.i l1_17] ⟨[(3,.cells 3 ((l1_2 ++ r5.1).map E_GTone))],4⟩ 4 [(4,3)] (kj2 (l1_2 ++ r5.1) rfl) r0 (.k (.ms rfl rfl) (.k (.c (cleanMap _ _ cl_GPiece)) (.k (.c rfl) (.k (.c rfl) .z)))) (.k rfl (.cells (.r (cleanMap _ _ cl_GTone))) .z)
     ·rintro _ rfl
      replace hl1:=Option.some.inj hl1; subst hl1
      exact wN 3 [] cj0 [2,15,16,17] [.ms 4 0 j2_2.length,v_0,v_1,.i (wr (l1_17 + 1))] ⟨[(4,.cells 3 (j2_2.map E_GTone))],5⟩ Kl1 rfl (see_into r0 (mkInto (L:=[(1,4)]) (ks:=[2,15,16,17]) (ys:=[.ms 4 0 j2_2.length,v_0,v_1,.i (wr (l1_17 + 1))]) (by kernel_rfl) (by kernel_rfl) (.k (.ms rfl rfl) (.k (.c (cleanMap _ _ cl_GPiece)) (.k (.c rfl) (.k (.c rfl) .z)))) (.k rfl (.cells (.r (cleanMap _ _ cl_GTone))) .z)))
   ·replace hl1:=Option.some.inj hl1; subst hl1
    have hr:=rl1 _ rfl
    subst hr
    exact wX 7 [.f] (cjC hc3 (cj1 (Kl1.o _ rfl))) (kl1 l1_2 rfl)
  ·rintro l1x_2 rfl
   replace h:=elimL h
   obtain ⟨r9,hr9,h⟩:=bindE h
   obtain ⟨hn10,h⟩:=needE h
   let v_2:AV:=.ms 1 0 l1x_2.length
   let v_3:AV:=.ms 1 0 r9.length
   let b_0:Blk:=.cells 3 (r9.map E_GTone)
   refine wT 2 [.r [{},{ c:=some (.tup [],⟨[(1,b_0)],2⟩) }]] (cj1 (callF (f90_1_ok l1x_2 _ hr9) [(0,1)] [(1,0)] [] [v_2,.fn 91 []] ⟨[(1,.cells 3 (l1x_2.map E_GTone))],2⟩ (.tup []) ⟨[(1,b_0)],2⟩ (by kernel_rfl) (.k (.ms rfl rfl) (.k (.c rfl) .z)) (.t .z) (.k rfl (.cells (.r (cleanMap _ _ cl_GTone))) .z) (.d (x':=b_0) rfl (by kernel_rfl) (.cells (.r (cleanMap _ _ cl_GTone))) .z))) [2] [v_2] ⟨[(1,b_0)],2⟩ (wI 2 [] [2] [v_2] (xs:=[v_3]) (S2:=⟨[(1,b_0)],2⟩) ?_ r0 (.k (.e rfl rfl hn10) .z) (.k rfl (.cells (.r (cleanMap _ _ cl_GTone))) .z))
   refine wT 1 [] cj0 [2,3] [v_3,.i 0] ⟨[(1,b_0)],2⟩ (wZ 1 3 (r9.map E_GTone) [2,3] [v_3,.i 0] (xs:=[.sl false (r9.map E_GTone),.i 0]) (S2:=⟨[],2⟩) ?_ (.k (.m (mLe r9 E_GTone) (mapAll r9 E_GTone)) (.k (.r _) .z)) .z)
   replace h:=Option.some.inj h; subst h
   exact wR 1 [] cj0
def f39 (a0:List GTone) (a1:List GTone):Option Bool:=bif (decide ((a0.length:Int) ≠ (a1.length:Int))) then (some false) else ((loopN (σ:=Int) (τ:=(Unit ⊕ Bool)) (fun (l1_5:Int)=>bif (decide (l1_5 < (a0.length:Int))) then ((ix a0 l1_5).bind fun y3=>(ix a1 l1_5).bind fun y4=>bif (!(eq_GTone y3 y4)) then (some (.inr (.inr false))) else (some (.inl (wr (l1_5 + 1))))) else (some (.inr (.inl ())))) FUEL 0).bind (Sum.elim (fun (_:Unit)=>some true) some))
theorem f39_ok (a0:List GTone) (a1:List GTone) (r:Bool) (h:f39 a0 a1 = some r):APure Tryz.prog 39 [.sl false (a0.map E_GTone),.sl false (a1.map E_GTone)] (.bool r):=by
 refine apure (clK (cleanMap a0 _ cl_GTone) (clK (cleanMap a1 _ cl_GTone) clZ)) rfl ?_
 refine wf 26 [.tmp 4] (c39 0) ?_
 unfold f39 at h
 refine W 3 [.n,.r [{},{ k:=1,n:=a0.length },{},{ k:=1,n:=a1.length }]] (cjC (mapLen a0 E_GTone) (cj1 (mapLen a1 E_GTone))) ?_
 rcases iteE h with ⟨hc1,h⟩ | ⟨hc1,h⟩
 ·replace h:=Option.some.inj h; subst h
  exact wR 4 [.t] (cj1 hc1)
 ·obtain ⟨ol1x,hll1x,h⟩:=bindE h
  refine W 5 [.f] (cj1 hc1) ?_
  refine wJ (fun (_:Unit)=>(zipE [] [])) (fun (_:Unit)=>⟨[],0⟩) (fun j=>ol1x = .inl j) (fun kl1=>?_) ?_
  ·refine wL 1 [] cj0 hll1x 0 (fun (l1_5:Int)=>(zipE [0,1,5] [.sl false (a0.map E_GTone),.sl false (a1.map E_GTone),.i l1_5])) (fun (l1_5:Int)=>⟨[],0⟩) ?_
   rintro l1_5 out hl1 rl1 Kl1
   refine W 2 [.r [{},{},{ k:=1,n:=a0.length }]] (cj1 (mapLen a0 E_GTone)) ?_
   rcases iteE hl1 with ⟨hc2,hl1⟩ | ⟨hc2,hl1⟩
   ·obtain ⟨y3,hy3,hl1⟩:=bindE hl1
    obtain ⟨y4,hy4,hl1⟩:=bindE hl1
    refine W 6 [.t,.r [{},{},{ k:=1,x:=E_GTone y3 },{},{},{},{ k:=1,x:=E_GTone y4 }]] (cjC hc2 (cjC ((ixE hy3).1) (cjC (mapGet E_GTone (ixE hy3).2) (cjC ((ixE hy4).1) (cj1 (mapGet E_GTone (ixE hy4).2)))))) ?_
    rcases iteE hl1 with ⟨hc5,hl1⟩ | ⟨hc5,hl1⟩
    ·replace hl1:=Option.some.inj hl1; subst hl1
     have hr:=rl1 _ rfl
     subst hr
     replace h:=elimR h
     replace h:=Option.some.inj h; subst h
     exact wR 8 [.t] (cjC hc5 (cj1 (Kl1.o _ rfl)))
    ·replace hl1:=Option.some.inj hl1; subst hl1
     exact wX 5 [.f] (cj1 hc5) (Kl1.n _ rfl)
   ·replace hl1:=Option.some.inj hl1; subst hl1
    have hr:=rl1 _ rfl
    subst hr
    exact wX 5 [.f] (cjC hc2 (cj1 (Kl1.o _ rfl))) (kl1 () rfl)
  ·rintro ⟨⟩ rfl
   replace h:=elimL h
   replace h:=Option.some.inj h; subst h
   exact wR 3 [] cj0
end
end Go.Proofs.YtodkhgjhodmeoaaGreat
