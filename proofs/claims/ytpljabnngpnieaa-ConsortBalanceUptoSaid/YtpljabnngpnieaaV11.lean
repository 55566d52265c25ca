/-
 Functions of the program as Lean functions,and the walks. Written by a program of ours.
-/
import Derived.Test.YtpljabnngpnieaaV32
namespace Go.Proofs.Ytpljabnngpnieaa
open Go Go.Am
set_option maxRecDepth 100000
set_option linter.all false
noncomputable def c49 (k:Nat):Code:=nthC (subs (Try.f49.body.getD .skip)) k
noncomputable def c50 (k:Nat):Code:=nthC (subs (Try.f50.body.getD .skip)) k
noncomputable def c51 (k:Nat):Code:=nthC (subs (Try.f51.body.getD .skip)) k
noncomputable def c30 (k:Nat):Code:=nthC (subs (Try.f30.body.getD .skip)) k
noncomputable def c11 (k:Nat):Code:=nthC (subs (Try.f11.body.getD .skip)) k
noncomputable def c9 (k:Nat):Code:=nthC (subs (Try.f9.body.getD .skip)) k
def f49 (a0:List GPiece):Option (((List Int)) × Int):=bif (decide ((a0.length:Int) = 0)) then (some (([]:List Int),90)) else (bif (decide (6 < (a0.length:Int))) then (some (([]:List Int),2)) else ((loopN (σ:=(List Int × Int)) (τ:=((List Int) ⊕ (((List Int)) × Int))) (fun ((l1_2,l1_18):(List Int × Int))=>bif (decide (l1_18 < (a0.length:Int))) then ((ix a0 l1_18).bind fun y4=>(f39 y4).bind fun r5=>bif (decide (r5.2 ≠ 0)) then (some (.inr (.inr (([]:List Int),r5.2)))) else ((ix r5.1 (wr ((r5.1.length:Int) - 1))).bind fun y7=>need (l1_2.length + 1 ≤ maxElems) <| some (.inl ((l1_2 ++ [y7]),(wr (l1_18 + 1)))))) else (some (.inr (.inl l1_2)))) FUEL (([]:List Int),0)).bind (Sum.elim (fun (l1x_2:(List Int))=>some (l1x_2,0)) some)))
theorem f49_ok (a0:List GPiece) (r:(((List Int)) × Int)) (h:f49 a0 = some r):APure Try.prog 49 [.sl false (a0.map E_GPiece)] (.tup [.sl false (r.1.map AV.i),.i r.2]):=by
 refine apure (clK (cleanMap a0 _ cl_GPiece) clZ) (clK (cleanMap r.1 _ cl_i) (clK rfl clZ)) ?_
 let v_0:AV:=.sl false (a0.map E_GPiece)
 refine run_f 41 [.tmp 2,.tmp 3] (c49 0) (zipE [0] [v_0]) (by kernel_rfl) (by kernel_rfl) (by kernel_rfl) rfl ?_
 unfold f49 at h
 refine run1z (c49 2) [] [0,2] [v_0,.sl true []] ⟨[],0⟩ _ (by kernel_rfl) cj0 ?_
 refine run_s (c49 3) (c49 17) (by kernel_rfl) ?_
 refine run_b 0 (c49 4) (by kernel_rfl) ?_
 refine run1z (c49 6) [{},{ k:=1,n:=a0.length }] [0,2,8] [v_0,.sl true [],.bool (decide ((a0.length:Int) = 0))] ⟨[],0⟩ _ (by kernel_rfl) (cj1 (mapLen a0 E_GPiece)) ?_
 rcases iteE h with ⟨hc1,h⟩ | ⟨hc1,h⟩
 ·refine run_cT 8 (c49 7) (c49 10) (decide ((a0.length:Int) = 0)) hc1 (by kernel_rfl) (by kernel_rfl) ?_
  refine run1z (c49 9) [] [2,3] [.sl true [],.i 90] ⟨[],0⟩ _ (by kernel_rfl) cj0 ?_
  refine run_i 0 [] [2,3] [.sl true [],.i 90] (xs:=[.sl false (([]:List Int).map AV.i),.i 90]) (S2:=⟨[],0⟩) ?_ (by intro i e; cases e <;> exact Nat.le_of_ble_eq_true rfl) (by kernel_rfl) (by kernel_rfl) (by kernel_rfl) (.k (.s (cleanMap (([]:List Int)) _ cl_i)) (.k (.c rfl) .z)) .z
  refine run_t (by kernel_rfl) ?_
  refine inbR ?_
  refine thenR ?_
  replace h:=Option.some.inj h; subst h
  exact fin_r (by kernel_rfl) rfl
 ·refine run_cF 8 (c49 7) (c49 10) (decide ((a0.length:Int) = 0)) hc1 (by kernel_rfl) (by kernel_rfl) ?_
  refine run1z (c49 12) [{},{ k:=1,n:=a0.length }] [0,2,12] [v_0,.sl true [],.bool (decide (6 < (a0.length:Int)))] ⟨[],0⟩ _ (by kernel_rfl) (cj1 (mapLen a0 E_GPiece)) ?_
  rcases iteE h with ⟨hc2,h⟩ | ⟨hc2,h⟩
  ·refine run_cT 12 (c49 13) (c49 16) (decide (6 < (a0.length:Int))) hc2 (by kernel_rfl) (by kernel_rfl) ?_
   refine run1z (c49 15) [] [2,3] [.sl true [],.i 2] ⟨[],0⟩ _ (by kernel_rfl) cj0 ?_
   refine run_i 0 [] [2,3] [.sl true [],.i 2] (xs:=[.sl false (([]:List Int).map AV.i),.i 2]) (S2:=⟨[],0⟩) ?_ (by intro i e; cases e <;> exact Nat.le_of_ble_eq_true rfl) (by kernel_rfl) (by kernel_rfl) (by kernel_rfl) (.k (.s (cleanMap (([]:List Int)) _ cl_i)) (.k (.c rfl) .z)) .z
   refine run_t (by kernel_rfl) ?_
   refine inbR ?_
   refine thenR ?_
   replace h:=Option.some.inj h; subst h
   exact fin_r (by kernel_rfl) rfl
  ·refine run_cF 12 (c49 13) (c49 16) (decide (6 < (a0.length:Int))) hc2 (by kernel_rfl) (by kernel_rfl) ?_
   refine run_k (by kernel_rfl) ?_
   refine inbN ?_
   refine thenN ?_
   refine run_s (c49 18) (c49 44) (by kernel_rfl) ?_
   let v_1:AV:=.i (a0.length:Int)
   refine run1z (c49 20) [{},{ k:=1,n:=a0.length }] [2,16,17,18] [.sl true [],v_0,v_1,.i 0] ⟨[],0⟩ _ (by kernel_rfl) (cj1 (mapLen a0 E_GPiece)) ?_
   obtain ⟨ol1x,hll1x,h⟩:=bindE h
   refine run_tq (fun (l1x_2:(List Int))=>(zipE [2] [.ms 0 0 l1x_2.length])) (fun (l1x_2:(List Int))=>⟨[(0,.cells 1 (l1x_2.map AV.i))],1⟩) (fun j=>ol1x = .inl j) (fun kl1=>?_) ?_
   ·refine run_b 1 (c49 21) (by kernel_rfl) ?_
    refine run_l (c49 22) _ hll1x (fun ((l1_2,l1_18):(List Int × Int))=>(zipE [2,16,17,18] [.ms 0 0 l1_2.length,v_0,v_1,.i l1_18])) (fun ((l1_2,l1_18):(List Int × Int))=>⟨[(0,.cells 1 (l1_2.map AV.i))],1⟩) [(0,1000000)] (by intro i e; cases e <;> exact Nat.le_of_ble_eq_true rfl) (by kernel_rfl) (mkInto (ks:=[2,16,17,18]) (ys:=[.sl true [],v_0,v_1,.i 0]) (by kernel_rfl) (by kernel_rfl) (.k (.n) (.k (.c (cleanMap _ _ cl_GPiece)) (.k (.c rfl) (.k (.c rfl) .z)))) (.n rfl rfl rfl .z)) ?_
    rintro ⟨l1_2,l1_18⟩ out hl1 rl1
    let v_2:AV:=.ms 0 0 l1_2.length
    let b_0:Blk:=.cells 1 (l1_2.map AV.i)
    refine run1z (c49 24) [] [2,16,17,18,19] [v_2,v_0,v_1,.i l1_18,.bool (decide (l1_18 < (a0.length:Int)))] ⟨[(0,b_0)],1⟩ _ (by kernel_rfl) cj0 ?_
    refine run_s (c49 25) (c49 28) (by kernel_rfl) ?_
    rcases iteE hl1 with ⟨hc3,hl1⟩ | ⟨hc3,hl1⟩
    ·refine run_cT 19 (c49 26) (c49 27) (decide (l1_18 < (a0.length:Int))) hc3 (by kernel_rfl) (by kernel_rfl) ?_
     refine run_k (by kernel_rfl) ?_
     refine thenN ?_
     refine run_s (c49 29) (c49 43) (by kernel_rfl) ?_
     refine run_b 2 (c49 30) (by kernel_rfl) ?_
     obtain ⟨y4,hy4,hl1⟩:=bindE hl1
     let b_1:Blk:=.cells 3 [E_GPiece y4]
     let s_0:St:=⟨[(1,b_1),(0,b_0)],2⟩
     refine run1z (c49 32) [{ k:=1,x:=E_GPiece y4 }] [2,5,16,17,18] [v_2,.mp 1 0 0,v_0,v_1,.i l1_18] s_0 _ (by kernel_rfl) (cjC ((ixE hy4).1) (cj1 (mapGet E_GPiece (ixE hy4).2))) ?_
     obtain ⟨r5,hr5,hl1⟩:=bindE hl1
     let v_3:AV:=.sl false (r5.1.map AV.i)
     refine run1z (c49 34) [{},{ c:=some (.tup [v_3,.i r5.2],s_0) }] [2,6,7,16,17,18] [v_2,v_3,.i r5.2,v_0,v_1,.i l1_18] ⟨[(0,b_0)],2⟩ _ (by kernel_rfl) (cj1 (f39_ok y4 _ hr5 s_0)) ?_
     refine run_s (c49 35) (c49 42) (by kernel_rfl) ?_
     refine run1z (c49 37) [] [2,6,7,16,17,18,28] [v_2,v_3,.i r5.2,v_0,v_1,.i l1_18,.bool (decide (r5.2 ≠ 0))] ⟨[(0,b_0)],2⟩ _ (by kernel_rfl) cj0 ?_
     rcases iteE hl1 with ⟨hc6,hl1⟩ | ⟨hc6,hl1⟩
     ·refine run_cT 28 (c49 38) (c49 41) (decide (r5.2 ≠ 0)) hc6 (by kernel_rfl) (by kernel_rfl) ?_
      refine run1z (c49 40) [] [2,3] [.sl true [],.i r5.2] ⟨[],2⟩ _ (by kernel_rfl) cj0 ?_
      replace hl1:=Option.some.inj hl1; subst hl1
      have hr:=rl1 _ rfl
      subst hr
      replace h:=elimR h
      refine run_i 2 [] [2,3] [.sl true [],.i r5.2] (xs:=[.sl false (([]:List Int).map AV.i),.i r5.2]) (S2:=⟨[],2⟩) ?_ (by intro i e; cases e <;> exact Nat.le_of_ble_eq_true rfl) (by kernel_rfl) (by kernel_rfl) (by kernel_rfl) (.k (.s (cleanMap (([]:List Int)) _ cl_i)) (.k (.c rfl) .z)) .z
      refine run_t (by kernel_rfl) ?_
      refine thenR ?_
      refine inbR ?_
      refine thenR ?_
      refine ⟨⟨_,rfl⟩,?_⟩
      refine inbR ?_
      refine thenR ?_
      replace h:=Option.some.inj h; subst h
      exact fin_r (by kernel_rfl) rfl
     ·refine run_cF 28 (c49 38) (c49 41) (decide (r5.2 ≠ 0)) hc6 (by kernel_rfl) (by kernel_rfl) ?_
      refine run_k (by kernel_rfl) ?_
      refine thenN ?_
      obtain ⟨y7,hy7,hl1⟩:=bindE hl1
      obtain ⟨hn8,hl1⟩:=needE hl1
      let s_1:St:=⟨[(2,.cells 1 ((l1_2 ++ [y7]).map AV.i))],3⟩
      refine run0z [{},{},{},{ k:=1,n:=r5.1.length },{},{ k:=1,x:=AV.i y7 },{},{},{ k:=1,n:=(l1_2 ++ [y7]).length,l:=(l1_2 ++ [y7]).map AV.i }] [2,16,17,18] [.ms 2 0 (l1_2 ++ [y7]).length,v_0,v_1,.i l1_18] s_1 _ (by kernel_rfl) (cjC (mapLen r5.1 AV.i) (cjC ((ixE hy7).1) (cjC (mapGet AV.i (ixE hy7).2) (cjC (@List.cons_ne_nil AV (.i y7) []) (cjC (mLe l1_2 AV.i) (cjC (hn8) (cjC (lenA l1_2 ([y7]:List Int)) (cjC (appA l1_2 ([y7]:List Int) AV.i) (cj1 (fitsOne (P:=Try.prog) (t:=3) (x:=.i y7) (r:=[]) (by kernel_rfl))))))))))) ?_
      refine inbN ?_
      refine thenN ?_
      refine run0z [] [2,16,17,18] [.ms 2 0 (l1_2 ++ [y7]).length,v_0,v_1,.i (wr (l1_18 + 1))] s_1 _ (by kernel_rfl) cj0 ?_
      replace hl1:=Option.some.inj hl1; subst hl1
      exact ⟨_,rfl,pi [(0,2)],mkInto (ks:=[2,16,17,18]) (ys:=[.ms 2 0 (l1_2 ++ [y7]).length,v_0,v_1,.i (wr (l1_18 + 1))]) (by kernel_rfl) (by kernel_rfl) (.k (.ms rfl rfl) (.k (.c (cleanMap _ _ cl_GPiece)) (.k (.c rfl) (.k (.c rfl) .z)))) (.k rfl (.cells (.r (cleanMap _ _ cl_i))) .z)⟩
    ·refine run_cF 19 (c49 26) (c49 27) (decide (l1_18 < (a0.length:Int))) hc3 (by kernel_rfl) (by kernel_rfl) ?_
     replace hl1:=Option.some.inj hl1; subst hl1
     have hr:=rl1 _ rfl
     subst hr
     refine awp_p [2] [0] (zipE [2] [v_2]) ⟨[(0,b_0)],1⟩ (by kernel_rfl) (?_)
     refine run_e 1 (by kernel_rfl) ?_
     refine thenE ?_
     refine ⟨⟨_,rfl⟩,?_⟩
     refine inbE ?_
     exact kl1 l1_2 rfl
   ·rintro l1x_2 rfl
    replace h:=elimL h
    refine thenN ?_
    refine run1z (c49 46) [] [2,3] [.ms 0 0 l1x_2.length,.i 0] ⟨[(0,.cells 1 (l1x_2.map AV.i))],1⟩ _ (by kernel_rfl) cj0 ?_
    refine run_z 0 1 (l1x_2.map AV.i) [2,3] [.ms 0 0 l1x_2.length,.i 0] (xs:=[.sl false (l1x_2.map AV.i),.i 0]) (S2:=⟨[],1⟩) ?_ (by kernel_rfl) (by kernel_rfl) (.k (.m (mLe l1x_2 AV.i) (mapAll l1x_2 AV.i)) (.k (.r _) .z)) .z rfl rfl
    refine run_t (by kernel_rfl) ?_
    replace h:=Option.some.inj h; subst h
    exact fin_r (by kernel_rfl) rfl
def f50 (a0:List Int):Option Int:=((bif (decide ((a0.length:Int) < 1)) then (none) else (some ())):Option Unit).bind fun (_:Unit)=>(ix a0 0).bind fun y2=>(loopN (σ:=(Int × Int)) (τ:=Int) (fun ((l2_3,l2_4):(Int × Int))=>bif (decide (l2_4 < (a0.length:Int))) then ((ix a0 l2_4).bind fun y4=>some (.inl ((minI l2_3 y4),(wr (l2_4 + 1))))) else (some (.inr l2_3))) FUEL (y2,1)).bind fun (l2x_3:Int)=>some l2x_3
theorem f50_ok (a0:List Int) (r:Int) (h:f50 a0 = some r):APure Try.prog 50 [.sl false (a0.map AV.i)] (.i r):=by
 refine apure (clK (cleanMap a0 _ cl_i) clZ) rfl ?_
 let v_0:AV:=.sl false (a0.map AV.i)
 refine run_f 25 [.tmp 2] (c50 0) (zipE [0] [v_0]) (by kernel_rfl) (by kernel_rfl) (by kernel_rfl) rfl ?_
 unfold f50 at h
 refine run1z (c50 2) [] [0] [v_0] ⟨[],0⟩ _ (by kernel_rfl) cj0 ?_
 obtain ⟨oj1,hj1,h⟩:=bindE h
 refine run_jq (c50 3) (c50 8) (fun (_:Unit)=>(zipE [0] [v_0])) (fun (_:Unit)=>⟨[],0⟩) (fun j=>oj1 = j) (by kernel_rfl) (fun kj1=>?_) ?_
 ·refine run1z (c50 5) [{},{ k:=1,n:=a0.length }] [0,7] [v_0,.bool (decide ((a0.length:Int) < 1))] ⟨[],0⟩ _ (by kernel_rfl) (cj1 (mapLen a0 AV.i)) ?_
  rcases iteE hj1 with ⟨hc1,hj1⟩ | ⟨hc1,hj1⟩
  ·refine run_cT 7 (c50 6) (c50 7) (decide ((a0.length:Int) < 1)) hc1 (by kernel_rfl) (by kernel_rfl) ?_
   cases hj1
  ·refine run_cF 7 (c50 6) (c50 7) (decide ((a0.length:Int) < 1)) hc1 (by kernel_rfl) (by kernel_rfl) ?_
   replace hj1:=Option.some.inj hj1; subst hj1
   refine awp_p [0] [] (zipE [0] [v_0]) ⟨[],0⟩ (by kernel_rfl) (?_)
   refine run_k (by kernel_rfl) ?_
   refine thenN ?_
   exact kj1 () rfl
 ·rintro ⟨⟩ rfl
  obtain ⟨y2,hy2,h⟩:=bindE h
  refine run1z (c50 10) [{},{ k:=1,x:=AV.i y2 }] [0,3] [v_0,.i y2] ⟨[],0⟩ _ (by kernel_rfl) (cjC ((ixE hy2).1) (cj1 (mapGet AV.i (ixE hy2).2))) ?_
  refine run_s (c50 11) (c50 25) (by kernel_rfl) ?_
  refine run1z (c50 13) [] [0,3,4] [v_0,.i y2,.i 1] ⟨[],0⟩ _ (by kernel_rfl) cj0 ?_
  obtain ⟨l2x_3,hll2x,h⟩:=bindE h
  refine run_tq (fun (l2x_3:Int)=>(zipE [3] [.i l2x_3])) (fun (l2x_3:Int)=>⟨[],0⟩) (fun j=>l2x_3 = j) (fun kl2=>?_) ?_
  ·refine run_b 0 (c50 14) (by kernel_rfl) ?_
   refine run_l (c50 15) _ hll2x (fun ((l2_3,l2_4):(Int × Int))=>(zipE [0,3,4] [v_0,.i l2_3,.i l2_4])) (fun ((l2_3,l2_4):(Int × Int))=>⟨[],0⟩) [] (by intro i e; cases e <;> exact Nat.le_of_ble_eq_true rfl) (by kernel_rfl) (mkInto (ks:=[0,3,4]) (ys:=[v_0,.i y2,.i 1]) (by kernel_rfl) (by kernel_rfl) (.k (.c (cleanMap _ _ cl_i)) (.k (.c rfl) (.k (.c rfl) .z))) .z) ?_
   rintro ⟨l2_3,l2_4⟩ out hl2 rl2
   refine run_s (c50 16) (c50 21) (by kernel_rfl) ?_
   refine run1z (c50 18) [{},{},{ k:=1,n:=a0.length }] [0,3,4,15] [v_0,.i l2_3,.i l2_4,.bool (decide (l2_4 < (a0.length:Int)))] ⟨[],0⟩ _ (by kernel_rfl) (cj1 (mapLen a0 AV.i)) ?_
   rcases iteE hl2 with ⟨hc3,hl2⟩ | ⟨hc3,hl2⟩
   ·refine run_cT 15 (c50 19) (c50 20) (decide (l2_4 < (a0.length:Int))) hc3 (by kernel_rfl) (by kernel_rfl) ?_
    refine run_k (by kernel_rfl) ?_
    refine thenN ?_
    refine run_s (c50 22) (c50 24) (by kernel_rfl) ?_
    refine run_b 1 (c50 23) (by kernel_rfl) ?_
    obtain ⟨y4,hy4,hl2⟩:=bindE hl2
    refine run0z [{},{},{},{ k:=1,x:=AV.i y4 }] [0,3,4] [v_0,.i (minI l2_3 y4),.i l2_4] ⟨[],0⟩ _ (by kernel_rfl) (cjC ((ixE hy4).1) (cj1 (mapGet AV.i (ixE hy4).2))) ?_
    refine inbN ?_
    refine thenN ?_
    refine run0z [] [0,3,4] [v_0,.i (minI l2_3 y4),.i (wr (l2_4 + 1))] ⟨[],0⟩ _ (by kernel_rfl) cj0 ?_
    replace hl2:=Option.some.inj hl2; subst hl2
    exact ⟨_,rfl,pi [],mkInto (ks:=[0,3,4]) (ys:=[v_0,.i (minI l2_3 y4),.i (wr (l2_4 + 1))]) (by kernel_rfl) (by kernel_rfl) (.k (.c (cleanMap _ _ cl_i)) (.k (.c rfl) (.k (.c rfl) .z))) .z⟩
   ·refine run_cF 15 (c50 19) (c50 20) (decide (l2_4 < (a0.length:Int))) hc3 (by kernel_rfl) (by kernel_rfl) ?_
    replace hl2:=Option.some.inj hl2; subst hl2
    have hr:=rl2 _ rfl
    subst hr
    refine awp_p [3] [] (zipE [3] [.i l2_3]) ⟨[],0⟩ (by kernel_rfl) (?_)
    refine run_e 0 (by kernel_rfl) ?_
    refine thenE ?_
    refine ⟨⟨_,rfl⟩,?_⟩
    refine inbE ?_
    exact kl2 l2_3 rfl
  ·rintro _ rfl
   refine thenN ?_
   refine run1z (c50 27) [] [2] [.i l2x_3] ⟨[],0⟩ _ (by kernel_rfl) cj0 ?_
   refine run_t (by kernel_rfl) ?_
   replace h:=Option.some.inj h; subst h
   exact fin_r (by kernel_rfl) rfl
def f51 (a0:List Int):Option Int:=((bif (decide ((a0.length:Int) < 1)) then (none) else (some ())):Option Unit).bind fun (_:Unit)=>(ix a0 0).bind fun y2=>(loopN (σ:=(Int × Int)) (τ:=Int) (fun ((l2_3,l2_4):(Int × Int))=>bif (decide (l2_4 < (a0.length:Int))) then ((ix a0 l2_4).bind fun y4=>some (.inl ((maxI l2_3 y4),(wr (l2_4 + 1))))) else (some (.inr l2_3))) FUEL (y2,1)).bind fun (l2x_3:Int)=>some l2x_3
theorem f51_ok (a0:List Int) (r:Int) (h:f51 a0 = some r):APure Try.prog 51 [.sl false (a0.map AV.i)] (.i r):=by
 refine apure (clK (cleanMap a0 _ cl_i) clZ) rfl ?_
 let v_0:AV:=.sl false (a0.map AV.i)
 refine run_f 25 [.tmp 2] (c51 0) (zipE [0] [v_0]) (by kernel_rfl) (by kernel_rfl) (by kernel_rfl) rfl ?_
 unfold f51 at h
 refine run1z (c51 2) [] [0] [v_0] ⟨[],0⟩ _ (by kernel_rfl) cj0 ?_
 obtain ⟨oj1,hj1,h⟩:=bindE h
 refine run_jq (c51 3) (c51 8) (fun (_:Unit)=>(zipE [0] [v_0])) (fun (_:Unit)=>⟨[],0⟩) (fun j=>oj1 = j) (by kernel_rfl) (fun kj1=>?_) ?_
 ·refine run1z (c51 5) [{},{ k:=1,n:=a0.length }] [0,7] [v_0,.bool (decide ((a0.length:Int) < 1))] ⟨[],0⟩ _ (by kernel_rfl) (cj1 (mapLen a0 AV.i)) ?_
  rcases iteE hj1 with ⟨hc1,hj1⟩ | ⟨hc1,hj1⟩
  ·refine run_cT 7 (c51 6) (c51 7) (decide ((a0.length:Int) < 1)) hc1 (by kernel_rfl) (by kernel_rfl) ?_
   cases hj1
  ·refine run_cF 7 (c51 6) (c51 7) (decide ((a0.length:Int) < 1)) hc1 (by kernel_rfl) (by kernel_rfl) ?_
   replace hj1:=Option.some.inj hj1; subst hj1
   refine awp_p [0] [] (zipE [0] [v_0]) ⟨[],0⟩ (by kernel_rfl) (?_)
   refine run_k (by kernel_rfl) ?_
   refine thenN ?_
   exact kj1 () rfl
 ·rintro ⟨⟩ rfl
  obtain ⟨y2,hy2,h⟩:=bindE h
  refine run1z (c51 10) [{},{ k:=1,x:=AV.i y2 }] [0,3] [v_0,.i y2] ⟨[],0⟩ _ (by kernel_rfl) (cjC ((ixE hy2).1) (cj1 (mapGet AV.i (ixE hy2).2))) ?_
  refine run_s (c51 11) (c51 25) (by kernel_rfl) ?_
  refine run1z (c51 13) [] [0,3,4] [v_0,.i y2,.i 1] ⟨[],0⟩ _ (by kernel_rfl) cj0 ?_
  obtain ⟨l2x_3,hll2x,h⟩:=bindE h
  refine run_tq (fun (l2x_3:Int)=>(zipE [3] [.i l2x_3])) (fun (l2x_3:Int)=>⟨[],0⟩) (fun j=>l2x_3 = j) (fun kl2=>?_) ?_
  ·refine run_b 0 (c51 14) (by kernel_rfl) ?_
   refine run_l (c51 15) _ hll2x (fun ((l2_3,l2_4):(Int × Int))=>(zipE [0,3,4] [v_0,.i l2_3,.i l2_4])) (fun ((l2_3,l2_4):(Int × Int))=>⟨[],0⟩) [] (by intro i e; cases e <;> exact Nat.le_of_ble_eq_true rfl) (by kernel_rfl) (mkInto (ks:=[0,3,4]) (ys:=[v_0,.i y2,.i 1]) (by kernel_rfl) (by kernel_rfl) (.k (.c (cleanMap _ _ cl_i)) (.k (.c rfl) (.k (.c rfl) .z))) .z) ?_
   rintro ⟨l2_3,l2_4⟩ out hl2 rl2
   refine run_s (c51 16) (c51 21) (by kernel_rfl) ?_
   refine run1z (c51 18) [{},{},{ k:=1,n:=a0.length }] [0,3,4,15] [v_0,.i l2_3,.i l2_4,.bool (decide (l2_4 < (a0.length:Int)))] ⟨[],0⟩ _ (by kernel_rfl) (cj1 (mapLen a0 AV.i)) ?_
   rcases iteE hl2 with ⟨hc3,hl2⟩ | ⟨hc3,hl2⟩
   ·refine run_cT 15 (c51 19) (c51 20) (decide (l2_4 < (a0.length:Int))) hc3 (by kernel_rfl) (by kernel_rfl) ?_
    refine run_k (by kernel_rfl) ?_
    refine thenN ?_
    refine run_s (c51 22) (c51 24) (by kernel_rfl) ?_
    refine run_b 1 (c51 23) (by kernel_rfl) ?_
    obtain ⟨y4,hy4,hl2⟩:=bindE hl2
    refine run0z [{},{},{},{ k:=1,x:=AV.i y4 }] [0,3,4] [v_0,.i (maxI l2_3 y4),.i l2_4] ⟨[],0⟩ _ (by kernel_rfl) (cjC ((ixE hy4).1) (cj1 (mapGet AV.i (ixE hy4).2))) ?_
    refine inbN ?_
    refine thenN ?_
    refine run0z [] [0,3,4] [v_0,.i (maxI l2_3 y4),.i (wr (l2_4 + 1))] ⟨[],0⟩ _ (by kernel_rfl) cj0 ?_
    replace hl2:=Option.some.inj hl2; subst hl2
    exact ⟨_,rfl,pi [],mkInto (ks:=[0,3,4]) (ys:=[v_0,.i (maxI l2_3 y4),.i (wr (l2_4 + 1))]) (by kernel_rfl) (by kernel_rfl) (.k (.c (cleanMap _ _ cl_i)) (.k (.c rfl) (.k (.c rfl) .z))) .z⟩
   ·refine run_cF 15 (c51 19) (c51 20) (decide (l2_4 < (a0.length:Int))) hc3 (by kernel_rfl) (by kernel_rfl) ?_
    replace hl2:=Option.some.inj hl2; subst hl2
    have hr:=rl2 _ rfl
    subst hr
    refine awp_p [3] [] (zipE [3] [.i l2_3]) ⟨[],0⟩ (by kernel_rfl) (?_)
    refine run_e 0 (by kernel_rfl) ?_
    refine thenE ?_
    refine ⟨⟨_,rfl⟩,?_⟩
    refine inbE ?_
    exact kl2 l2_3 rfl
  ·rintro _ rfl
   refine thenN ?_
   refine run1z (c51 27) [] [2] [.i l2x_3] ⟨[],0⟩ _ (by kernel_rfl) cj0 ?_
   refine run_t (by kernel_rfl) ?_
   replace h:=Option.some.inj h; subst h
   exact fin_r (by kernel_rfl) rfl
def f30 (a0:GConsort):Option (Int × Int):=(f49 a0.pieces).bind fun r1=>bif (decide (r1.2 ≠ 0)) then (some (0,r1.2)) else ((f50 r1.1).bind fun r3=>(f51 r1.1).bind fun r4=>bif (decide (r3 ≠ r4)) then (some (0,91)) else ((ix r1.1 0).bind fun y6=>some (y6,0)))
theorem f30_ok (a0:GConsort) (r:(Int × Int)) (h:f30 a0 = some r):APure Try.prog 30 [E_GConsort a0] (.tup [.i r.1,.i r.2]):=by
 refine apure (clK (cl_GConsort a0) clZ) (clK rfl (clK rfl clZ)) ?_
 refine run_f 25 [.tmp 2,.tmp 3] (c30 0) (zipE [0] [E_GConsort a0]) (by kernel_rfl) (by kernel_rfl) (by kernel_rfl) rfl ?_
 unfold f30 at h
 let b_0:Blk:=.cells 1 [E_GConsort a0]
 refine run1z (c30 2) [] [1] [.mp 0 0 0] ⟨[(0,b_0)],1⟩ _ (by kernel_rfl) cj0 ?_
 obtain ⟨r1,hr1,h⟩:=bindE h
 let v_0:AV:=.sl false (r1.1.map AV.i)
 refine run1z (c30 4) [{},{},{ c:=some (.tup [v_0,.i r1.2],⟨[(0,b_0)],1⟩) }] [4,5] [v_0,.i r1.2] ⟨[],1⟩ _ (by kernel_rfl) (cj1 (f49_ok a0.pieces _ hr1 ⟨[(0,b_0)],1⟩)) ?_
 refine run_s (c30 5) (c30 19) (by kernel_rfl) ?_
 refine run_b 0 (c30 6) (by kernel_rfl) ?_
 refine run1z (c30 8) [] [4,5,12] [v_0,.i r1.2,.bool (decide (r1.2 ≠ 0))] ⟨[],1⟩ _ (by kernel_rfl) cj0 ?_
 rcases iteE h with ⟨hc2,h⟩ | ⟨hc2,h⟩
 ·refine run_cT 12 (c30 9) (c30 12) (decide (r1.2 ≠ 0)) hc2 (by kernel_rfl) (by kernel_rfl) ?_
  refine run1z (c30 11) [] [2,3] [.i 0,.i r1.2] ⟨[],1⟩ _ (by kernel_rfl) cj0 ?_
  refine run_t (by kernel_rfl) ?_
  refine inbR ?_
  refine thenR ?_
  replace h:=Option.some.inj h; subst h
  exact fin_r (by kernel_rfl) rfl
 ·refine run_cF 12 (c30 9) (c30 12) (decide (r1.2 ≠ 0)) hc2 (by kernel_rfl) (by kernel_rfl) ?_
  obtain ⟨r3,hr3,h⟩:=bindE h
  obtain ⟨r4,hr4,h⟩:=bindE h
  refine run1z (c30 14) [{},{ c:=some (.i r3,⟨[],1⟩) },{},{ c:=some (.i r4,⟨[],1⟩) }] [4,16] [v_0,.bool (decide (r3 ≠ r4))] ⟨[],1⟩ _ (by kernel_rfl) (cjC (f50_ok r1.1 _ hr3 ⟨[],1⟩) (cj1 (f51_ok r1.1 _ hr4 ⟨[],1⟩))) ?_
  rcases iteE h with ⟨hc5,h⟩ | ⟨hc5,h⟩
  ·refine run_cT 16 (c30 15) (c30 18) (decide (r3 ≠ r4)) hc5 (by kernel_rfl) (by kernel_rfl) ?_
   refine run1z (c30 17) [] [2,3] [.i 0,.i 91] ⟨[],1⟩ _ (by kernel_rfl) cj0 ?_
   refine run_t (by kernel_rfl) ?_
   refine inbR ?_
   refine thenR ?_
   replace h:=Option.some.inj h; subst h
   exact fin_r (by kernel_rfl) rfl
  ·refine run_cF 16 (c30 15) (c30 18) (decide (r3 ≠ r4)) hc5 (by kernel_rfl) (by kernel_rfl) ?_
   refine run_k (by kernel_rfl) ?_
   refine inbN ?_
   refine thenN ?_
   obtain ⟨y6,hy6,h⟩:=bindE h
   refine run1z (c30 21) [{},{ k:=1,x:=AV.i y6 }] [2,3] [.i y6,.i 0] ⟨[],1⟩ _ (by kernel_rfl) (cjC ((ixE hy6).1) (cj1 (mapGet AV.i (ixE hy6).2))) ?_
   refine run_t (by kernel_rfl) ?_
   replace h:=Option.some.inj h; subst h
   exact fin_r (by kernel_rfl) rfl
def f11 (a0:GConsort):Option (Int ⊕ (Int × List GCDesk)):=(f30 a0).bind fun r1=>bif (decide (r1.2 ≠ 0)) then (some (.inl r1.2)) else ((loopN (σ:=(List GCDesk × Int)) (τ:=((List GCDesk) ⊕ (Int ⊕ (Int × List GCDesk)))) (fun ((l1_h1_4,l1_26):(List GCDesk × Int))=>bif (decide (l1_26 < (a0.pieces.length:Int))) then ((ix a0.pieces l1_26).bind fun y4=>(f32 y4).bind fun r5=>bif (decide (r5.2 ≠ 0)) then (some (.inr (.inr (.inl r5.2)))) else (need (l1_h1_4.length + 1 ≤ maxElems) <| some (.inl ((l1_h1_4 ++ [(⟨r5.1,false,0⟩:GCDesk)]),(wr (l1_26 + 1)))))) else (some (.inr (.inl l1_h1_4)))) FUEL (([]:List GCDesk),0)).bind (Sum.elim (fun (l1x_h1_4:(List GCDesk))=>some (.inr (r1.1,l1x_h1_4))) some))
theorem f11_ok (a0:GConsort) (r:(Int ⊕ (Int × List GCDesk))) (h:f11 a0 = some r):ACalls Try.prog 11 [E_GConsort a0] ⟨[],0⟩ (fun y t=>match r with | .inl r=>y = .tup [.nilp,.i r] ∧ t = ⟨[],4⟩ | .inr r=>y = .tup [.mp 1 0 0,.i 0] ∧ t = ⟨[(4,.cells 7 (([]:List GCLive).map E_GCLive)),(3,.cells 5 (([]:List GTake).map E_GTake)),(2,.cells 3 (r.2.map E_GCDesk)),(1,.cells 11 [.agg [.i 0,.i 0,.i r.1,.bool true,.ms 2 0 r.2.length,.i 0,.i 0,.i 0,.ms 4 0 ([]:List GCLive).length,.fn 31 [],.ms 3 0 ([]:List GTake).length]])],5⟩):=by
 refine run_f 51 [.tmp 2,.tmp 3] (c11 0) (zipE [0] [E_GConsort a0]) (by kernel_rfl) (by kernel_rfl) (by kernel_rfl) rfl ?_
 unfold f11 at h
 let b_0:Blk:=.cells 1 [E_GConsort a0]
 refine run1z (c11 2) [] [1] [.mp 0 0 0] ⟨[(0,b_0)],1⟩ _ (by kernel_rfl) cj0 ?_
 obtain ⟨r1,hr1,h⟩:=bindE h
 refine run1z (c11 4) [{},{ c:=some (.tup [.i r1.1,.i r1.2],⟨[(0,b_0)],1⟩) }] [1,4,5] [.mp 0 0 0,.i r1.1,.i r1.2] ⟨[(0,b_0)],1⟩ _ (by kernel_rfl) (cj1 (f30_ok a0 _ hr1 ⟨[(0,b_0)],1⟩)) ?_
 refine run_s (c11 5) (c11 12) (by kernel_rfl) ?_
 refine run1z (c11 7) [] [1,4,5,17] [.mp 0 0 0,.i r1.1,.i r1.2,.bool (decide (r1.2 ≠ 0))] ⟨[(0,b_0)],1⟩ _ (by kernel_rfl) cj0 ?_
 rcases iteE h with ⟨hc2,h⟩ | ⟨hc2,h⟩
 ·refine run_cT 17 (c11 8) (c11 11) (decide (r1.2 ≠ 0)) hc2 (by kernel_rfl) (by kernel_rfl) ?_
  refine run1z (c11 10) [] [2,3] [.nilp,.i r1.2] ⟨[],1⟩ _ (by kernel_rfl) cj0 ?_
  refine run_i 1 [] [2,3] [.nilp,.i r1.2] (xs:=[.nilp,.i r1.2]) (S2:=⟨[],4⟩) ?_ (by intro i e; cases e <;> exact Nat.le_of_ble_eq_true rfl) (by kernel_rfl) (by kernel_rfl) (by kernel_rfl) (.k (.c rfl) (.k (.c rfl) .z)) .z
  refine run_t (by kernel_rfl) ?_
  refine thenR ?_
  replace h:=Option.some.inj h; subst h
  exact fin_p [] ⟨[],4⟩ (by kernel_rfl) (by kernel_rfl) rfl ⟨rfl,rfl⟩
 ·refine run_cF 17 (c11 8) (c11 11) (decide (r1.2 ≠ 0)) hc2 (by kernel_rfl) (by kernel_rfl) ?_
  refine run_k (by kernel_rfl) ?_
  refine thenN ?_
  let w_0:AV:=.agg [.i 0,.i 0,.i r1.1,.bool true,.sl true [],.i 0,.i 0,.i 0,.sl true [],.fn 31 [],.sl true []]
  refine run1z (c11 14) [] [1,6] [.mp 0 0 0,.mp 1 0 0] ⟨[(1,.cells 11 [w_0]),(0,b_0)],2⟩ _ (by kernel_rfl) cj0 ?_
  refine run_s (c11 15) (c11 41) (by kernel_rfl) ?_
  let v_0:AV:=.sl false (a0.pieces.map E_GPiece)
  let v_1:AV:=.i (a0.pieces.length:Int)
  refine run1z (c11 17) [{},{},{ k:=1,n:=a0.pieces.length }] [6,24,25,26] [.mp 1 0 0,v_0,v_1,.i 0] ⟨[(1,.cells 11 [w_0])],2⟩ _ (by kernel_rfl) (cj1 (mapLen a0.pieces E_GPiece)) ?_
  obtain ⟨ol1x,hll1x,h⟩:=bindE h
  refine run_tq (fun (l1x_h1_4:(List GCDesk))=>(zipE [6] [.mp 1 0 0])) (fun (l1x_h1_4:(List GCDesk))=>⟨[(2,.cells 3 (l1x_h1_4.map E_GCDesk)),(1,.cells 11 [.agg [.i 0,.i 0,.i r1.1,.bool true,.ms 2 0 l1x_h1_4.length,.i 0,.i 0,.i 0,.sl true [],.fn 31 [],.sl true []]])],3⟩) (fun j=>ol1x = .inl j) (fun kl1=>?_) ?_
  ·refine run_b 0 (c11 18) (by kernel_rfl) ?_
   refine run_l (c11 19) _ hll1x (fun ((l1_h1_4,l1_26):(List GCDesk × Int))=>(zipE [6,24,25,26] [.mp 1 0 0,v_0,v_1,.i l1_26])) (fun ((l1_h1_4,l1_26):(List GCDesk × Int))=>⟨[(2,.cells 3 (l1_h1_4.map E_GCDesk)),(1,.cells 11 [.agg [.i 0,.i 0,.i r1.1,.bool true,.ms 2 0 l1_h1_4.length,.i 0,.i 0,.i 0,.sl true [],.fn 31 [],.sl true []]])],3⟩) [(2,1000000)] (by intro i e; cases e <;> exact Nat.le_of_ble_eq_true rfl) (by kernel_rfl) (mkInto (ks:=[6,24,25,26]) (ys:=[.mp 1 0 0,v_0,v_1,.i 0]) (by kernel_rfl) (by kernel_rfl) (.k (.mp rfl rfl) (.k (.c (cleanMap _ _ cl_GPiece)) (.k (.c rfl) (.k (.c rfl) .z)))) (.n rfl rfl rfl (.k rfl (.cells (.k (.a (.k (.c rfl) (.k (.c rfl) (.k (.c rfl) (.k (.c rfl) (.k (.n) (.k (.c rfl) (.k (.c rfl) (.k (.c rfl) (.k (.c rfl) (.k (.c rfl) (.k (.c rfl) .z)))))))))))) .z)) .z))) ?_
   rintro ⟨l1_h1_4,l1_26⟩ out hl1 rl1
   let v_2:AV:=.ms 2 0 l1_h1_4.length
   let w_1:AV:=.agg [.i 0,.i 0,.i r1.1,.bool true,v_2,.i 0,.i 0,.i 0,.sl true [],.fn 31 [],.sl true []]
   let b_1:Blk:=.cells 3 (l1_h1_4.map E_GCDesk)
   let s_0:St:=⟨[(2,b_1),(1,.cells 11 [w_1])],3⟩
   refine run1z (c11 21) [] [6,24,25,26,27] [.mp 1 0 0,v_0,v_1,.i l1_26,.bool (decide (l1_26 < (a0.pieces.length:Int)))] s_0 _ (by kernel_rfl) cj0 ?_
   refine run_s (c11 22) (c11 25) (by kernel_rfl) ?_
   rcases iteE hl1 with ⟨hc3,hl1⟩ | ⟨hc3,hl1⟩
   ·refine run_cT 27 (c11 23) (c11 24) (decide (l1_26 < (a0.pieces.length:Int))) hc3 (by kernel_rfl) (by kernel_rfl) ?_
    refine run_k (by kernel_rfl) ?_
    refine thenN ?_
    refine run_s (c11 26) (c11 40) (by kernel_rfl) ?_
    refine run_b 1 (c11 27) (by kernel_rfl) ?_
    obtain ⟨y4,hy4,hl1⟩:=bindE hl1
    let b_2:Blk:=.cells 3 [E_GPiece y4]
    let s_1:St:=⟨[(3,b_2),(2,b_1),(1,.cells 11 [w_1])],4⟩
    refine run1z (c11 29) [{ k:=1,x:=E_GPiece y4 }] [6,8,24,25,26] [.mp 1 0 0,.mp 3 0 0,v_0,v_1,.i l1_26] s_1 _ (by kernel_rfl) (cjC ((ixE hy4).1) (cj1 (mapGet E_GPiece (ixE hy4).2))) ?_
    obtain ⟨r5,hr5,hl1⟩:=bindE hl1
    let v_3:AV:=.sl false (r5.1.map E_GNote)
    let s_2:St:=⟨[(2,b_1),(1,.cells 11 [w_1])],4⟩
    refine run1z (c11 31) [{},{ c:=some (.tup [v_3,.i r5.2],s_1) }] [6,9,10,24,25,26] [.mp 1 0 0,v_3,.i r5.2,v_0,v_1,.i l1_26] s_2 _ (by kernel_rfl) (cj1 (f32_ok y4 _ hr5 s_1)) ?_
    refine run_s (c11 32) (c11 39) (by kernel_rfl) ?_
    refine run1z (c11 34) [] [6,9,10,24,25,26,36] [.mp 1 0 0,v_3,.i r5.2,v_0,v_1,.i l1_26,.bool (decide (r5.2 ≠ 0))] s_2 _ (by kernel_rfl) cj0 ?_
    rcases iteE hl1 with ⟨hc6,hl1⟩ | ⟨hc6,hl1⟩
    ·refine run_cT 36 (c11 35) (c11 38) (decide (r5.2 ≠ 0)) hc6 (by kernel_rfl) (by kernel_rfl) ?_
     refine run1z (c11 37) [] [2,3] [.nilp,.i r5.2] ⟨[],4⟩ _ (by kernel_rfl) cj0 ?_
     replace hl1:=Option.some.inj hl1; subst hl1
     have hr:=rl1 _ rfl
     subst hr
     replace h:=elimR h
     refine run_t (by kernel_rfl) ?_
     refine thenR ?_
     refine inbR ?_
     refine thenR ?_
     refine ⟨⟨_,rfl⟩,?_⟩
     refine inbR ?_
     refine thenR ?_
     replace h:=Option.some.inj h; subst h
     exact fin_p [] ⟨[],4⟩ (by kernel_rfl) (by kernel_rfl) rfl ⟨rfl,rfl⟩
    ·refine run_cF 36 (c11 35) (c11 38) (decide (r5.2 ≠ 0)) hc6 (by kernel_rfl) (by kernel_rfl) ?_
     refine run_k (by kernel_rfl) ?_
     refine thenN ?_
     obtain ⟨hn7,hl1⟩:=needE hl1
     let w_2:AV:=.agg [.i 0,.i 0,.i r1.1,.bool true,.ms 4 0 (l1_h1_4 ++ [(⟨r5.1,false,0⟩:GCDesk)]).length,.i 0,.i 0,.i 0,.sl true [],.fn 31 [],.sl true []]
     let b_3:Blk:=.cells 3 ((l1_h1_4 ++ [(⟨r5.1,false,0⟩:GCDesk)]).map E_GCDesk)
     let s_3:St:=⟨[(4,b_3),(1,.cells 11 [w_2])],5⟩
     refine run0z [{},{},{},{},{},{},{},{},{ k:=1,n:=(l1_h1_4 ++ [(⟨r5.1,false,0⟩:GCDesk)]).length,l:=(l1_h1_4 ++ [(⟨r5.1,false,0⟩:GCDesk)]).map E_GCDesk }] [6,24,25,26] [.mp 1 0 0,v_0,v_1,.i l1_26] s_3 _ (by kernel_rfl) (cjC (@List.cons_ne_nil AV (.agg [v_3,.bool false,.i 0]) []) (cjC (mLe l1_h1_4 E_GCDesk) (cjC (hn7) (cjC (lenA l1_h1_4 ([(⟨r5.1,false,0⟩:GCDesk)]:List GCDesk)) (cjC (appA l1_h1_4 ([(⟨r5.1,false,0⟩:GCDesk)]:List GCDesk) E_GCDesk) (cj1 (fitsOne (P:=Try.prog) (t:=93) (x:=.agg [v_3,.bool false,.i 0]) (r:=[]) (by kernel_rfl)))))))) ?_
     refine inbN ?_
     refine thenN ?_
     refine run0z [] [6,24,25,26] [.mp 1 0 0,v_0,v_1,.i (wr (l1_26 + 1))] s_3 _ (by kernel_rfl) cj0 ?_
     replace hl1:=Option.some.inj hl1; subst hl1
     exact ⟨_,rfl,pi [(2,4)],mkInto (ks:=[6,24,25,26]) (ys:=[.mp 1 0 0,v_0,v_1,.i (wr (l1_26 + 1))]) (by kernel_rfl) (by kernel_rfl) (.k (.mp rfl rfl) (.k (.c (cleanMap _ _ cl_GPiece)) (.k (.c rfl) (.k (.c rfl) .z)))) (.k rfl (.cells (.r (cleanMap _ _ cl_GCDesk))) (.k rfl (.cells (.k (.a (.k (.c rfl) (.k (.c rfl) (.k (.c rfl) (.k (.c rfl) (.k (.ms rfl rfl) (.k (.c rfl) (.k (.c rfl) (.k (.c rfl) (.k (.c rfl) (.k (.c rfl) (.k (.c rfl) .z)))))))))))) .z)) .z))⟩
   ·refine run_cF 27 (c11 23) (c11 24) (decide (l1_26 < (a0.pieces.length:Int))) hc3 (by kernel_rfl) (by kernel_rfl) ?_
    replace hl1:=Option.some.inj hl1; subst hl1
    have hr:=rl1 _ rfl
    subst hr
    refine awp_p [6] [2,1] (zipE [6] [.mp 1 0 0]) s_0 (by kernel_rfl) (?_)
    refine run_e 0 (by kernel_rfl) ?_
    refine thenE ?_
    refine ⟨⟨_,rfl⟩,?_⟩
    refine inbE ?_
    exact kl1 l1_h1_4 rfl
  ·rintro l1x_h1_4 rfl
   replace h:=elimL h
   refine thenN ?_
   let v_4:AV:=.ms 2 0 l1x_h1_4.length
   let b_4:Blk:=.cells 3 (l1x_h1_4.map E_GCDesk)
   refine run1z (c11 43) [] [2,3] [.mp 1 0 0,.i 0] ⟨[(2,b_4),(1,.cells 11 [.agg [.i 0,.i 0,.i r1.1,.bool true,v_4,.i 0,.i 0,.i 0,.sl true [],.fn 31 [],.sl true []]])],3⟩ _ (by kernel_rfl) cj0 ?_
   let b_5:Blk:=.cells 5 (([]:List GTake).map E_GTake)
   refine run_i 3 [(3,1000000)] [2,3] [.mp 1 0 0,.i 0] (xs:=[.mp 1 0 0,.i 0]) (S2:=⟨[(3,b_5),(2,b_4),(1,.cells 11 [.agg [.i 0,.i 0,.i r1.1,.bool true,v_4,.i 0,.i 0,.i 0,.sl true [],.fn 31 [],.ms 3 0 ([]:List GTake).length]])],4⟩) ?_ (by intro i e; cases e <;> exact Nat.le_of_ble_eq_true rfl) (by kernel_rfl) (by kernel_rfl) (by kernel_rfl) (.k (.mp rfl rfl) (.k (.c rfl) .z)) (.n rfl rfl rfl (.k rfl (.cells (.r (cleanMap _ _ cl_GCDesk))) (.k rfl (.cells (.k (.a (.k (.c rfl) (.k (.c rfl) (.k (.c rfl) (.k (.c rfl) (.k (.ms rfl rfl) (.k (.c rfl) (.k (.c rfl) (.k (.c rfl) (.k (.c rfl) (.k (.c rfl) (.k (.n) .z)))))))))))) .z)) .z)))
   let w_3:AV:=.agg [.i 0,.i 0,.i r1.1,.bool true,v_4,.i 0,.i 0,.i 0,.ms 4 0 ([]:List GCLive).length,.fn 31 [],.ms 3 0 ([]:List GTake).length]
   let b_6:Blk:=.cells 7 (([]:List GCLive).map E_GCLive)
   let s_4:St:=⟨[(4,b_6),(3,b_5),(2,b_4),(1,.cells 11 [w_3])],5⟩
   refine run_i 4 [(4,1000000)] [2,3] [.mp 1 0 0,.i 0] (xs:=[.mp 1 0 0,.i 0]) (S2:=s_4) ?_ (by intro i e; cases e <;> exact Nat.le_of_ble_eq_true rfl) (by kernel_rfl) (by kernel_rfl) (by kernel_rfl) (.k (.mp rfl rfl) (.k (.c rfl) .z)) (.n rfl rfl rfl (.k rfl (.cells (.r (cleanMap _ _ cl_GTake))) (.k rfl (.cells (.r (cleanMap _ _ cl_GCDesk))) (.k rfl (.cells (.k (.a (.k (.c rfl) (.k (.c rfl) (.k (.c rfl) (.k (.c rfl) (.k (.ms rfl rfl) (.k (.c rfl) (.k (.c rfl) (.k (.c rfl) (.k (.n) (.k (.c rfl) (.k (.ms rfl rfl) .z)))))))))))) .z)) .z))))
   refine run_t (by kernel_rfl) ?_
   replace h:=Option.some.inj h; subst h
   exact fin_p [4,3,2,1] s_4 (by kernel_rfl) (by kernel_rfl) rfl ⟨rfl,rfl⟩
def f9 (a0:List GPiece):Option Bool:=(loopN (σ:=Int) (τ:=(Unit ⊕ Bool)) (fun (l1_3:Int)=>bif (decide (l1_3 < (a0.length:Int))) then ((((ix a0 l1_3).bind fun y2=>bif (decide (60 < (y2.events.length:Int))) then (some (decide ((y2.events.length:Int) ≤ 400))) else (some false)):Option Bool).bind fun (j2_25:Bool)=>bif j2_25 then (some (.inr (.inr true))) else (some (.inl (wr (l1_3 + 1))))) else (some (.inr (.inl ())))) FUEL 0).bind (Sum.elim (fun (_:Unit)=>some (decide (8 < (a0.length:Int)))) some)
theorem f9_ok (a0:List GPiece) (r:Bool) (h:f9 a0 = some r):APure Try.prog 9 [.sl false (a0.map E_GPiece)] (.bool r):=by
 refine apure (clK (cleanMap a0 _ cl_GPiece) clZ) rfl ?_
 let v_0:AV:=.sl false (a0.map E_GPiece)
 refine run_f 29 [.tmp 2] (c9 0) (zipE [0] [v_0]) (by kernel_rfl) (by kernel_rfl) (by kernel_rfl) rfl ?_
 unfold f9 at h
 refine run1z (c9 2) [] [0] [v_0] ⟨[],0⟩ _ (by kernel_rfl) cj0 ?_
 refine run_s (c9 3) (c9 23) (by kernel_rfl) ?_
 refine run1z (c9 5) [] [0,3] [v_0,.i 0] ⟨[],0⟩ _ (by kernel_rfl) cj0 ?_
 obtain ⟨ol1x,hll1x,h⟩:=bindE h
 refine run_tq (fun (_:Unit)=>(zipE [0] [v_0])) (fun (_:Unit)=>⟨[],0⟩) (fun j=>ol1x = .inl j) (fun kl1=>?_) ?_
 ·refine run_b 0 (c9 6) (by kernel_rfl) ?_
  refine run_l (c9 7) _ hll1x (fun (l1_3:Int)=>(zipE [0,3] [v_0,.i l1_3])) (fun (l1_3:Int)=>⟨[],0⟩) [] (by intro i e; cases e <;> exact Nat.le_of_ble_eq_true rfl) (by kernel_rfl) (mkInto (ks:=[0,3]) (ys:=[v_0,.i 0]) (by kernel_rfl) (by kernel_rfl) (.k (.c (cleanMap _ _ cl_GPiece)) (.k (.c rfl) .z)) .z) ?_
  rintro l1_3 out hl1 rl1
  refine run_s (c9 8) (c9 13) (by kernel_rfl) ?_
  refine run1z (c9 10) [{},{},{ k:=1,n:=a0.length }] [0,3,7] [v_0,.i l1_3,.bool (decide (l1_3 < (a0.length:Int)))] ⟨[],0⟩ _ (by kernel_rfl) (cj1 (mapLen a0 E_GPiece)) ?_
  rcases iteE hl1 with ⟨hc1,hl1⟩ | ⟨hc1,hl1⟩
  ·refine run_cT 7 (c9 11) (c9 12) (decide (l1_3 < (a0.length:Int))) hc1 (by kernel_rfl) (by kernel_rfl) ?_
   refine run_k (by kernel_rfl) ?_
   refine thenN ?_
   refine run_s (c9 14) (c9 22) (by kernel_rfl) ?_
   refine run_b 1 (c9 15) (by kernel_rfl) ?_
   obtain ⟨j2_25,hj2,hl1⟩:=bindE hl1
   refine run_gq (c9 17) (fun (j2_25:Bool)=>(zipE [0,3,25] [v_0,.i l1_3,.bool j2_25])) (fun (j2_25:Bool)=>⟨[],0⟩) (fun j=>j2_25 = j) (fun kj2=>?_) ?_
   ·obtain ⟨y2,hy2,hj2⟩:=bindE hj2
    rcases iteE hj2 with ⟨hc3,hj2⟩ | ⟨hc3,hj2⟩
    ·replace hj2:=Option.some.inj hj2; subst hj2
     exact run1z (c9 17) [{},{},{ k:=1,x:=E_GPiece y2 },{},{},{ k:=1,n:=y2.events.length },{},{},{},{},{ k:=1,x:=E_GPiece y2 },{},{},{ k:=1,n:=y2.events.length },{},{ k:=1,b:=true }] [0,3,25] [v_0,.i l1_3,.bool (decide ((y2.events.length:Int) ≤ 400))] ⟨[],0⟩ _ (by kernel_rfl) (cjC ((ixE hy2).1) (cjC (mapGet E_GPiece (ixE hy2).2) (cjC (mapLen y2.events E_GEvent) (cjC (hc3) (cjC (hc3) (cjC (hc3) (cjC ((ixE hy2).1) (cjC (mapGet E_GPiece (ixE hy2).2) (cjC (hc3) (cjC (hc3) (cjC (hc3) (cjC (mapLen y2.events E_GEvent) (cjC (hc3) (cj1 (hc3))))))))))))))) (kj2 (decide ((y2.events.length:Int) ≤ 400)) rfl)
    ·replace hj2:=Option.some.inj hj2; subst hj2
     exact run1z (c9 17) [{},{},{ k:=1,x:=E_GPiece y2 },{},{},{ k:=1,n:=y2.events.length },{},{},{ g:=false },{ g:=false },{ g:=false },{ g:=false },{ g:=false },{ g:=false },{ g:=false },{ k:=1,b:=false }] [0,3,25] [v_0,.i l1_3,.bool false] ⟨[],0⟩ _ (by kernel_rfl) (cjC ((ixE hy2).1) (cjC (mapGet E_GPiece (ixE hy2).2) (cjC (mapLen y2.events E_GEvent) (cjC (hc3) (cjC (hc3) (cjC (hc3) (cjC (hc3) (cjC (hc3) (cjC (hc3) (cjC (hc3) (cj1 (hc3)))))))))))) (kj2 false rfl)
   ·rintro _ rfl
    rcases iteE hl1 with ⟨hc4,hl1⟩ | ⟨hc4,hl1⟩
    ·refine run_cT 25 (c9 18) (c9 21) j2_25 hc4 (by kernel_rfl) (by kernel_rfl) ?_
     refine run1z (c9 20) [] [2] [.bool true] ⟨[],0⟩ _ (by kernel_rfl) cj0 ?_
     replace hl1:=Option.some.inj hl1; subst hl1
     have hr:=rl1 _ rfl
     subst hr
     replace h:=elimR h
     refine run_t (by kernel_rfl) ?_
     refine inbR ?_
     refine thenR ?_
     refine ⟨⟨_,rfl⟩,?_⟩
     refine inbR ?_
     refine thenR ?_
     replace h:=Option.some.inj h; subst h
     exact fin_r (by kernel_rfl) rfl
    ·refine run_cF 25 (c9 18) (c9 21) j2_25 hc4 (by kernel_rfl) (by kernel_rfl) ?_
     refine run_k (by kernel_rfl) ?_
     refine inbN ?_
     refine thenN ?_
     refine run0z [] [0,3] [v_0,.i (wr (l1_3 + 1))] ⟨[],0⟩ _ (by kernel_rfl) cj0 ?_
     replace hl1:=Option.some.inj hl1; subst hl1
     exact ⟨_,rfl,pi [],mkInto (ks:=[0,3]) (ys:=[v_0,.i (wr (l1_3 + 1))]) (by kernel_rfl) (by kernel_rfl) (.k (.c (cleanMap _ _ cl_GPiece)) (.k (.c rfl) .z)) .z⟩
  ·refine run_cF 7 (c9 11) (c9 12) (decide (l1_3 < (a0.length:Int))) hc1 (by kernel_rfl) (by kernel_rfl) ?_
   replace hl1:=Option.some.inj hl1; subst hl1
   have hr:=rl1 _ rfl
   subst hr
   refine awp_p [0] [] (zipE [0] [v_0]) ⟨[],0⟩ (by kernel_rfl) (?_)
   refine run_e 0 (by kernel_rfl) ?_
   refine thenE ?_
   refine ⟨⟨_,rfl⟩,?_⟩
   refine inbE ?_
   exact kl1 () rfl
 ·rintro ⟨⟩ rfl
  replace h:=elimL h
  refine thenN ?_
  refine run1z (c9 25) [{},{ k:=1,n:=a0.length }] [2] [.bool (decide (8 < (a0.length:Int)))] ⟨[],0⟩ _ (by kernel_rfl) (cj1 (mapLen a0 E_GPiece)) ?_
  refine run_t (by kernel_rfl) ?_
  replace h:=Option.some.inj h; subst h
  exact fin_r (by kernel_rfl) rfl
def f10:Option Bool:=some true
theorem f10_ok (r:Bool) (h:f10 = some r):APure Try.prog 10 [] (.bool r):=by cases h; exact works_ok
end Go.Proofs.Ytpljabnngpnieaa
