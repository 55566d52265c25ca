/-
 Functions of the program as Lean functions,and the walks. Written by a program of ours.
-/
import Derived.Test.YtpljabnngpnieaaV32
namespace Go.Proofs.Ytpljabnngpnieaa
open Go Go.Am
set_option maxRecDepth 100000
set_option linter.all false
noncomputable def c19 (k:Nat):Code:=nthC (subs (Try.f19.body.getD .skip)) k
def f27 :Option (Int × Int):=some (0,5)
theorem f27_ok  (r:(Int × Int)) (h:f27  = some r):APure Try.prog 27 [.nilp] (.tup [.i r.1,.i r.2]):=by
 refine apure (clK rfl clZ) (clK rfl (clK rfl clZ)) ?_
 refine run_f 12 [.tmp 2,.tmp 3] (c27 0) (zipE [0] [.nilp]) (by kernel_rfl) (by kernel_rfl) (by kernel_rfl) rfl ?_
 unfold f27 at h
 refine run1z (c27 2) [] [0] [.nilp] ⟨[],0⟩ _ (by kernel_rfl) cj0 ?_
 refine run_s (c27 3) (c27 17) (by kernel_rfl) ?_
 refine run_b 0 (c27 4) (by kernel_rfl) ?_
 refine run1z (c27 6) [] [0,4] [.nilp,.bool true] ⟨[],0⟩ _ (by kernel_rfl) cj0 ?_
 refine run_cT 4 (c27 7) (c27 10) true rfl (by kernel_rfl) (by kernel_rfl) ?_
 refine run1z (c27 9) [] [2,3] [.i 0,.i 5] ⟨[],0⟩ _ (by kernel_rfl) cj0 ?_
 refine run_t (by kernel_rfl) ?_
 refine inbR ?_
 refine thenR ?_
 replace h:=Option.some.inj h; subst h
 exact fin_r (by kernel_rfl) rfl
def f13 :Option (GFrame × Int):=(f27).bind fun r1=>bif (decide (r1.2 ≠ 0)) then (some ((⟨0,([]:List GVoice),([]:List GVoice)⟩:GFrame),r1.2)) else (none)
theorem f13_ok  (r:(GFrame × Int)) (h:f13  = some r):APure Try.prog 13 [.nilp] (.tup [E_GFrame r.1,.i r.2]):=by
 refine apure (clK rfl clZ) (clK (cl_GFrame r.1) (clK rfl clZ)) ?_
 refine run_f 86 [.cell 2 34,.tmp 3] (c13 0) (zipE [0] [.nilp]) (by kernel_rfl) (by kernel_rfl) (by kernel_rfl) rfl ?_
 unfold f13 at h
 let w_0:AV:=.agg [.i 0,.sl true [],.sl true []]
 let s_0:St:=⟨[(0,.cells 3 [w_0])],1⟩
 refine run1z (c13 2) [] [0,2] [.nilp,.mp 0 0 0] s_0 _ (by kernel_rfl) cj0 ?_
 obtain ⟨r1,hr1,h⟩:=bindE h
 let s_1:St:=⟨[(1,.cells 1 [.i r1.1]),(0,.cells 3 [w_0])],2⟩
 refine run1z (c13 4) [{},{ c:=some (.tup [.i r1.1,.i r1.2],s_0) }] [0,2,4,5] [.nilp,.mp 0 0 0,.mp 1 0 0,.i r1.2] s_1 _ (by kernel_rfl) (cj1 (APure.co (ok:=fun _=>false) (π:=id) (args:=[.nilp]) (f27_ok  _ hr1) (.k (.c rfl) .z) s_0)) ?_
 refine run_s (c13 5) (c13 12) (by kernel_rfl) ?_
 refine run1z (c13 7) [] [0,2,4,5,13] [.nilp,.mp 0 0 0,.mp 1 0 0,.i r1.2,.bool (decide (r1.2 ≠ 0))] s_1 _ (by kernel_rfl) cj0 ?_
 rcases iteE h with ⟨hc2,h⟩ | ⟨hc2,h⟩
 ·refine run_cT 13 (c13 8) (c13 11) (decide (r1.2 ≠ 0)) hc2 (by kernel_rfl) (by kernel_rfl) ?_
  refine run1z (c13 10) [] [2,3] [.mp 0 0 0,.i r1.2] ⟨[(0,.cells 3 [w_0])],2⟩ _ (by kernel_rfl) cj0 ?_
  refine run_i 2 [] [2,3] [.mp 0 0 0,.i r1.2] (xs:=[.mp 0 0 0,.i r1.2]) (S2:=⟨[(0,.cells 3 [.agg [.i (⟨0,([]:List GVoice),([]:List GVoice)⟩:GFrame).time,.sl false ((⟨0,([]:List GVoice),([]:List GVoice)⟩:GFrame).begin.map E_GVoice),.sl false ((⟨0,([]:List GVoice),([]:List GVoice)⟩:GFrame).end_.map E_GVoice)]])],2⟩) ?_ (by intro i e; cases e <;> exact Nat.le_of_ble_eq_true rfl) (by kernel_rfl) (by kernel_rfl) (by kernel_rfl) (.k (.mp rfl rfl) (.k (.c rfl) .z)) (.k rfl (.cells (.k (.a (.k (.c rfl) (.k (.s (cleanMap (([]:List GVoice)) _ cl_GVoice)) (.k (.s (cleanMap (([]:List GVoice)) _ cl_GVoice)) .z)))) .z)) .z)
  refine run_t (by kernel_rfl) ?_
  refine thenR ?_
  replace h:=Option.some.inj h; subst h
  exact fin_r (by kernel_rfl) rfl
 ·refine run_cF 13 (c13 8) (c13 11) (decide (r1.2 ≠ 0)) hc2 (by kernel_rfl) (by kernel_rfl) ?_
  refine run_k (by kernel_rfl) ?_
  refine thenN ?_
  refine run_s (c13 13) (c13 22) (by kernel_rfl) ?_
  cases h
def f16 :Option (((List GFrame)) × Bool):=(loopN (σ:=(List GFrame × Int)) (τ:=(Unit ⊕ (((List GFrame)) × Bool))) (fun ((l1_4,l1_7):(List GFrame × Int))=>bif (decide (l1_7 < 20000)) then ((f13).bind fun r2=>bif (decide (r2.2 = 92)) then (some (.inr (.inr (l1_4,true)))) else (bif (decide (r2.2 ≠ 0)) then (some (.inr (.inr (([]:List GFrame),false)))) else (need (l1_4.length + 1 ≤ maxElems) <| some (.inl ((l1_4 ++ [r2.1]),(wr (l1_7 + 1))))))) else (some (.inr (.inl ())))) FUEL (([]:List GFrame),0)).bind (Sum.elim (fun (_:Unit)=>some (([]:List GFrame),false)) some)
theorem f16_ok  (r:(((List GFrame)) × Bool)) (h:f16  = some r):APure Try.prog 16 [.nilp] (.tup [.sl false (r.1.map E_GFrame),.bool r.2]):=by
 refine apure (clK rfl clZ) (clK (cleanMap r.1 _ cl_GFrame) (clK rfl clZ)) ?_
 refine run_f 24 [.tmp 2,.tmp 3] (c16 0) (zipE [0] [.nilp]) (by kernel_rfl) (by kernel_rfl) (by kernel_rfl) rfl ?_
 unfold f16 at h
 refine run1z (c16 2) [] [0] [.nilp] ⟨[],0⟩ _ (by kernel_rfl) cj0 ?_
 refine run1z (c16 4) [] [0,4] [.nilp,.sl true []] ⟨[],0⟩ _ (by kernel_rfl) cj0 ?_
 refine run_s (c16 5) (c16 37) (by kernel_rfl) ?_
 refine run1z (c16 7) [] [0,4,7] [.nilp,.sl true [],.i 0] ⟨[],0⟩ _ (by kernel_rfl) cj0 ?_
 obtain ⟨ol1x,hll1x,h⟩:=bindE h
 refine run_tq (fun (_:Unit)=>(zipE [] [])) (fun (_:Unit)=>⟨[],1⟩) (fun j=>ol1x = .inl j) (fun kl1=>?_) ?_
 ·refine run_b 0 (c16 8) (by kernel_rfl) ?_
  refine run_l (c16 9) _ hll1x (fun ((l1_4,l1_7):(List GFrame × Int))=>(zipE [0,4,7] [.nilp,.ms 0 0 l1_4.length,.i l1_7])) (fun ((l1_4,l1_7):(List GFrame × Int))=>⟨[(0,.cells 3 (l1_4.map E_GFrame))],1⟩) [(0,1000000)] (by intro i e; cases e <;> exact Nat.le_of_ble_eq_true rfl) (by kernel_rfl) (mkInto (ks:=[0,4,7]) (ys:=[.nilp,.sl true [],.i 0]) (by kernel_rfl) (by kernel_rfl) (.k (.c rfl) (.k (.n) (.k (.c rfl) .z))) (.n rfl rfl rfl .z)) ?_
  rintro ⟨l1_4,l1_7⟩ out hl1 rl1
  let v_0:AV:=.ms 0 0 l1_4.length
  let b_0:Blk:=.cells 3 (l1_4.map E_GFrame)
  refine run1z (c16 11) [] [0,4,7,8] [.nilp,v_0,.i l1_7,.bool (decide (l1_7 < 20000))] ⟨[(0,b_0)],1⟩ _ (by kernel_rfl) cj0 ?_
  refine run_s (c16 12) (c16 15) (by kernel_rfl) ?_
  rcases iteE hl1 with ⟨hc1,hl1⟩ | ⟨hc1,hl1⟩
  ·refine run_cT 8 (c16 13) (c16 14) (decide (l1_7 < 20000)) hc1 (by kernel_rfl) (by kernel_rfl) ?_
   refine run_k (by kernel_rfl) ?_
   refine thenN ?_
   refine run_s (c16 16) (c16 36) (by kernel_rfl) ?_
   refine run_b 1 (c16 17) (by kernel_rfl) ?_
   obtain ⟨r2,hr2,hl1⟩:=bindE hl1
   let b_1:Blk:=.cells 3 [E_GFrame r2.1]
   let s_0:St:=⟨[(1,b_1),(0,b_0)],2⟩
   refine run1z (c16 19) [{},{ c:=some (.tup [E_GFrame r2.1,.i r2.2],⟨[(0,b_0)],1⟩) }] [0,4,5,6,7] [.nilp,v_0,.mp 1 0 0,.i r2.2,.i l1_7] s_0 _ (by kernel_rfl) (cj1 (APure.co (ok:=fun _=>false) (π:=id) (args:=[.nilp]) (f13_ok  _ hr2) (.k (.c rfl) .z) ⟨[(0,b_0)],1⟩)) ?_
   refine run_s (c16 20) (c16 27) (by kernel_rfl) ?_
   refine run1z (c16 22) [] [0,4,5,6,7,15] [.nilp,v_0,.mp 1 0 0,.i r2.2,.i l1_7,.bool (decide (r2.2 = 92))] s_0 _ (by kernel_rfl) cj0 ?_
   rcases iteE hl1 with ⟨hc3,hl1⟩ | ⟨hc3,hl1⟩
   ·refine run_cT 15 (c16 23) (c16 26) (decide (r2.2 = 92)) hc3 (by kernel_rfl) (by kernel_rfl) ?_
    refine run1z (c16 25) [] [2,3] [v_0,.bool true] ⟨[(0,b_0)],2⟩ _ (by kernel_rfl) cj0 ?_
    replace hl1:=Option.some.inj hl1; subst hl1
    have hr:=rl1 _ rfl
    subst hr
    replace h:=elimR h
    refine run_z 0 3 (l1_4.map E_GFrame) [2,3] [v_0,.bool true] (xs:=[.sl false (l1_4.map E_GFrame),.bool true]) (S2:=⟨[],2⟩) ?_ (by kernel_rfl) (by kernel_rfl) (.k (.m (mLe l1_4 E_GFrame) (mapAll l1_4 E_GFrame)) (.k (.r _) .z)) .z rfl rfl
    refine run_t (by kernel_rfl) ?_
    refine thenR ?_
    refine inbR ?_
    refine thenR ?_
    refine ⟨⟨_,rfl⟩,?_⟩
    refine inbR ?_
    refine thenR ?_
    replace h:=Option.some.inj h; subst h
    exact fin_r (by kernel_rfl) rfl
   ·refine run_cF 15 (c16 23) (c16 26) (decide (r2.2 = 92)) hc3 (by kernel_rfl) (by kernel_rfl) ?_
    refine run_k (by kernel_rfl) ?_
    refine thenN ?_
    refine run_s (c16 28) (c16 35) (by kernel_rfl) ?_
    refine run1z (c16 30) [] [0,4,5,7,18] [.nilp,v_0,.mp 1 0 0,.i l1_7,.bool (decide (r2.2 ≠ 0))] s_0 _ (by kernel_rfl) cj0 ?_
    rcases iteE hl1 with ⟨hc4,hl1⟩ | ⟨hc4,hl1⟩
    ·refine run_cT 18 (c16 31) (c16 34) (decide (r2.2 ≠ 0)) hc4 (by kernel_rfl) (by kernel_rfl) ?_
     refine run1z (c16 33) [] [2,3] [.sl true [],.bool false] ⟨[],2⟩ _ (by kernel_rfl) cj0 ?_
     replace hl1:=Option.some.inj hl1; subst hl1
     have hr:=rl1 _ rfl
     subst hr
     replace h:=elimR h
     refine run_i 2 [] [2,3] [.sl true [],.bool false] (xs:=[.sl false (([]:List GFrame).map E_GFrame),.bool false]) (S2:=⟨[],2⟩) ?_ (by intro i e; cases e <;> exact Nat.le_of_ble_eq_true rfl) (by kernel_rfl) (by kernel_rfl) (by kernel_rfl) (.k (.s (cleanMap (([]:List GFrame)) _ cl_GFrame)) (.k (.c rfl) .z)) .z
     refine run_t (by kernel_rfl) ?_
     refine thenR ?_
     refine inbR ?_
     refine thenR ?_
     refine ⟨⟨_,rfl⟩,?_⟩
     refine inbR ?_
     refine thenR ?_
     replace h:=Option.some.inj h; subst h
     exact fin_r (by kernel_rfl) rfl
    ·refine run_cF 18 (c16 31) (c16 34) (decide (r2.2 ≠ 0)) hc4 (by kernel_rfl) (by kernel_rfl) ?_
     refine run_k (by kernel_rfl) ?_
     refine thenN ?_
     obtain ⟨hn5,hl1⟩:=needE hl1
     let b_2:Blk:=.cells 3 ((l1_4 ++ [r2.1]).map E_GFrame)
     refine run0z [{},{},{},{ k:=1,n:=(l1_4 ++ [r2.1]).length,l:=(l1_4 ++ [r2.1]).map E_GFrame }] [0,4,7] [.nilp,.ms 2 0 (l1_4 ++ [r2.1]).length,.i l1_7] ⟨[(2,b_2)],3⟩ _ (by kernel_rfl) (cjC (@List.cons_ne_nil AV (E_GFrame r2.1) []) (cjC (mLe l1_4 E_GFrame) (cjC (hn5) (cjC (lenA l1_4 ([r2.1]:List GFrame)) (cjC (appA l1_4 ([r2.1]:List GFrame) E_GFrame) (cj1 (fitsOne (P:=Try.prog) (t:=34) (x:=E_GFrame r2.1) (r:=[]) (by kernel_rfl)))))))) ?_
     refine inbN ?_
     refine thenN ?_
     refine run0z [] [0,4,7] [.nilp,.ms 2 0 (l1_4 ++ [r2.1]).length,.i (wr (l1_7 + 1))] ⟨[(2,b_2)],3⟩ _ (by kernel_rfl) cj0 ?_
     replace hl1:=Option.some.inj hl1; subst hl1
     exact ⟨_,rfl,pi [(0,2)],mkInto (ks:=[0,4,7]) (ys:=[.nilp,.ms 2 0 (l1_4 ++ [r2.1]).length,.i (wr (l1_7 + 1))]) (by kernel_rfl) (by kernel_rfl) (.k (.c rfl) (.k (.ms rfl rfl) (.k (.c rfl) .z))) (.k rfl (.cells (.r (cleanMap _ _ cl_GFrame))) .z)⟩
  ·refine run_cF 8 (c16 13) (c16 14) (decide (l1_7 < 20000)) hc1 (by kernel_rfl) (by kernel_rfl) ?_
   replace hl1:=Option.some.inj hl1; subst hl1
   have hr:=rl1 _ rfl
   subst hr
   refine awp_p [] [] (zipE [] []) ⟨[],1⟩ (by kernel_rfl) (?_)
   refine run_e 0 (by kernel_rfl) ?_
   refine thenE ?_
   refine ⟨⟨_,rfl⟩,?_⟩
   refine inbE ?_
   exact kl1 () rfl
 ·rintro ⟨⟩ rfl
  replace h:=elimL h
  refine thenN ?_
  refine run1z (c16 39) [] [2,3] [.sl true [],.bool false] ⟨[],1⟩ _ (by kernel_rfl) cj0 ?_
  refine run_i 1 [] [2,3] [.sl true [],.bool false] (xs:=[.sl false (([]:List GFrame).map E_GFrame),.bool false]) (S2:=⟨[],1⟩) ?_ (by intro i e; cases e <;> exact Nat.le_of_ble_eq_true rfl) (by kernel_rfl) (by kernel_rfl) (by kernel_rfl) (.k (.s (cleanMap (([]:List GFrame)) _ cl_GFrame)) (.k (.c rfl) .z)) .z
  refine run_t (by kernel_rfl) ?_
  replace h:=Option.some.inj h; subst h
  exact fin_r (by kernel_rfl) rfl
def f22 :Option Bool:=some false
def f19 :Option Int:=some 0
theorem f19_ok  (r:Int) (h:f19  = some r):APure Try.prog 19 [.nilp] (.i r):=by
 refine apure (clK rfl clZ) rfl ?_
 refine run_f 10 [.tmp 2] (c19 0) (zipE [0] [.nilp]) (by kernel_rfl) (by kernel_rfl) (by kernel_rfl) rfl ?_
 unfold f19 at h
 refine run1z (c19 2) [] [0] [.nilp] ⟨[],0⟩ _ (by kernel_rfl) cj0 ?_
 refine run_s (c19 3) (c19 10) (by kernel_rfl) ?_
 refine run1z (c19 5) [] [0,4] [.nilp,.bool true] ⟨[],0⟩ _ (by kernel_rfl) cj0 ?_
 refine run_cT 4 (c19 6) (c19 9) true rfl (by kernel_rfl) (by kernel_rfl) ?_
 refine run1z (c19 8) [] [2] [.i 0] ⟨[],0⟩ _ (by kernel_rfl) cj0 ?_
 refine run_t (by kernel_rfl) ?_
 refine thenR ?_
 replace h:=Option.some.inj h; subst h
 exact fin_r (by kernel_rfl) rfl
def f20 :Option ((List GTake)):=some ([]:List GTake)
theorem f20_ok  (r:((List GTake))) (h:f20  = some r):APure Try.prog 20 [.nilp] (.sl false (r.map E_GTake)):=by
 refine apure (clK rfl clZ) (cleanMap r _ cl_GTake) ?_
 refine run_f 10 [.tmp 2] (c20 0) (zipE [0] [.nilp]) (by kernel_rfl) (by kernel_rfl) (by kernel_rfl) rfl ?_
 unfold f20 at h
 refine run1z (c20 2) [] [0] [.nilp] ⟨[],0⟩ _ (by kernel_rfl) cj0 ?_
 refine run_s (c20 3) (c20 10) (by kernel_rfl) ?_
 refine run1z (c20 5) [] [0,4] [.nilp,.bool true] ⟨[],0⟩ _ (by kernel_rfl) cj0 ?_
 refine run_cT 4 (c20 6) (c20 9) true rfl (by kernel_rfl) (by kernel_rfl) ?_
 refine run1z (c20 8) [] [2] [.sl true []] ⟨[],0⟩ _ (by kernel_rfl) cj0 ?_
 refine run_i 0 [] [2] [.sl true []] (xs:=[.sl false (([]:List GTake).map E_GTake)]) (S2:=⟨[],0⟩) ?_ (by intro i e; cases e <;> exact Nat.le_of_ble_eq_true rfl) (by kernel_rfl) (by kernel_rfl) (by kernel_rfl) (.k (.s (cleanMap (([]:List GTake)) _ cl_GTake)) .z) .z
 refine run_t (by kernel_rfl) ?_
 refine thenR ?_
 replace h:=Option.some.inj h; subst h
 exact fin_r (by kernel_rfl) rfl
def f19_1 (a0:GCPlayer):Option Unit:=some ()
theorem f19_1_ok (a0:GCPlayer) (r:Unit) (h:f19_1 a0 = some r):ACalls Try.prog 19 [.mp 0 0 0] ⟨[(3,.cells 5 (a0.takes.map E_GTake)),(2,.cells 7 (a0.sounding.l.map E_GCLive)),(1,.cells 3 (a0.desks.map E_GCDesk)),(0,.cells 11 [.agg [.i a0.clock.ticks,.i a0.now,.i a0.end_,.bool a0.waiting,.ms 1 0 a0.desks.length,.i a0.from_,.i a0.to_,.i a0.times,.ms 2 0 a0.sounding.l.length,.fn 31 [],.ms 3 0 a0.takes.length]])],4⟩ (fun y t=>y = .i a0.clock.ticks ∧ t = ⟨[(3,.cells 5 (a0.takes.map E_GTake)),(2,.cells 7 (a0.sounding.l.map E_GCLive)),(1,.cells 3 (a0.desks.map E_GCDesk)),(0,.cells 11 [.agg [.i a0.clock.ticks,.i a0.now,.i a0.end_,.bool a0.waiting,.ms 1 0 a0.desks.length,.i a0.from_,.i a0.to_,.i a0.times,.ms 2 0 a0.sounding.l.length,.fn 31 [],.ms 3 0 a0.takes.length]])],4⟩):=by
 refine run_f 10 [.tmp 2] (c19 0) (zipE [0] [.mp 0 0 0]) (by kernel_rfl) (by kernel_rfl) (by kernel_rfl) rfl ?_
 unfold f19_1 at h
 let v_0:AV:=.ms 2 0 a0.sounding.l.length
 let v_1:AV:=.ms 1 0 a0.desks.length
 let v_2:AV:=.ms 3 0 a0.takes.length
 let v_3:AV:=.i a0.clock.ticks
 let v_4:AV:=.bool a0.waiting
 let w_0:AV:=.agg [v_3,.i a0.now,.i a0.end_,v_4,v_1,.i a0.from_,.i a0.to_,.i a0.times,v_0,.fn 31 [],v_2]
 let b_0:Blk:=.cells 7 (a0.sounding.l.map E_GCLive)
 let b_1:Blk:=.cells 3 (a0.desks.map E_GCDesk)
 let b_2:Blk:=.cells 5 (a0.takes.map E_GTake)
 let s_0:St:=⟨[(3,b_2),(2,b_0),(1,b_1),(0,.cells 11 [w_0])],4⟩
 refine run1z (c19 2) [] [0] [.mp 0 0 0] s_0 _ (by kernel_rfl) cj0 ?_
 refine run_s (c19 3) (c19 10) (by kernel_rfl) ?_
 refine run1z (c19 5) [] [0,4] [.mp 0 0 0,.bool false] s_0 _ (by kernel_rfl) cj0 ?_
 refine run_cF 4 (c19 6) (c19 9) false rfl (by kernel_rfl) (by kernel_rfl) ?_
 refine run_k (by kernel_rfl) ?_
 refine thenN ?_
 refine run1z (c19 12) [] [2] [v_3] s_0 _ (by kernel_rfl) cj0 ?_
 refine run_t (by kernel_rfl) ?_
 replace h:=Option.some.inj h; subst h
 exact fin_p [3,2,1,0] s_0 (by kernel_rfl) (by kernel_rfl) rfl ⟨rfl,rfl⟩
def f15 (a1:Int):Option (GFrame × Int):=some ((⟨0,([]:List GVoice),([]:List GVoice)⟩:GFrame),5)
def f18 (a1:Int) (a2:Int) (a3:Int):Option Int:=some 5
theorem f18_ok (a1:Int) (a2:Int) (a3:Int) (r:Int) (h:f18 a1 a2 a3 = some r):APure Try.prog 18 [.nilp,.i a1,.i a2,.i a3] (.i r):=by
 refine apure (clK rfl (clK rfl (clK rfl (clK rfl clZ)))) rfl ?_
 refine run_f 39 [.tmp 8] (c18 0) (zipE [0,1,2,3] [.nilp,.i a1,.i a2,.i a3]) (by kernel_rfl) (by kernel_rfl) (by kernel_rfl) rfl ?_
 unfold f18 at h
 refine run1z (c18 2) [] [0,1,2,3] [.nilp,.i a1,.i a2,.i a3] ⟨[],0⟩ _ (by kernel_rfl) cj0 ?_
 refine run_s (c18 3) (c18 29) (by kernel_rfl) ?_
 refine run_b 0 (c18 4) (by kernel_rfl) ?_
 refine run1z (c18 6) [] [0,1,2,3,9] [.nilp,.i a1,.i a2,.i a3,.bool true] ⟨[],0⟩ _ (by kernel_rfl) cj0 ?_
 refine run_cT 9 (c18 7) (c18 10) true rfl (by kernel_rfl) (by kernel_rfl) ?_
 refine run1z (c18 9) [] [8] [.i 5] ⟨[],0⟩ _ (by kernel_rfl) cj0 ?_
 refine run_t (by kernel_rfl) ?_
 refine inbR ?_
 refine thenR ?_
 replace h:=Option.some.inj h; subst h
 exact fin_r (by kernel_rfl) rfl
end Go.Proofs.Ytpljabnngpnieaa
