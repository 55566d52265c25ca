/-
 Functions of the program as Lean functions,and the walks. Written by a program of ours.
-/
import Derived.Test.YtpljabnngpnieaaV32
namespace Go.Proofs.Ytpljabnngpnieaa
open Go Go.Am
set_option maxRecDepth 100000
set_option linter.all false
noncomputable def c21 (k:Nat):Code:=nthC (subs (Try.f21.body.getD .skip)) k
noncomputable def c41 (k:Nat):Code:=nthC (subs (Try.f41.body.getD .skip)) k
def f21 (a0:GConsort) (a1:List GTake) (a2:Int) (a3:Int):Option Bool:=need (0 ≤ (a1.length:Int)) <| need ((a1.length:Int) ≤ (maxElems:Int)) <| (loopN (σ:=(List Bool × Int × Int)) (τ:=(Int ⊕ Bool)) (fun ((l1_9,l1_10,l1_26):(List Bool × Int × Int))=>bif (decide (l1_26 < (a0.pieces.length:Int))) then ((ix a0.pieces l1_26).bind fun y4=>(f32 y4).bind fun r5=>bif (decide (r5.2 ≠ 0)) then (some (.inr (.inr false))) else ((loopN (σ:=(List Bool × Int × Int)) (τ:=((List Bool × Int) ⊕ ((List Bool × Int × Int) ⊕ (Int ⊕ Bool)))) (fun ((l2_9,l2_10,l2_40):(List Bool × Int × Int))=>bif (decide (l2_40 < (r5.1.length:Int))) then ((((ix r5.1 l2_40).bind fun y8=>bif (decide (l1_26 = a2)) then (some (.inl (l2_9,l2_10))) else ((loopN (σ:=Int) (τ:=(List Bool × Bool)) (fun (l4_51:Int)=>bif (decide (l4_51 < (a1.length:Int))) then ((ix a1 l4_51).bind fun y11=>(((ix l2_9 l4_51).bind fun y12=>bif (!y12) then (some (eq_GTake y11 (⟨l1_26,y8.course,y8.pitch,(wr (y8.from_ + a3)),(wr (y8.to_ + a3))⟩:GTake))) else (some false)):Option Bool).bind fun (j5_78:Bool)=>bif j5_78 then ((ix l2_9 l4_51).bind fun y15=>some (.inr ((l2_9.set l4_51.toNat true),true))) else (some (.inl (wr (l4_51 + 1))))) else (some (.inr (l2_9,false)))) FUEL 0).bind fun ((l4x_9,l4x_17):(List Bool × Bool))=>bif (!l4x_17) then (some (.inr (.inr (.inr (.inr (.inr false)))))) else (some (.inl (l4x_9,(wr (l2_10 + 1))))))):Option ((List Bool × Int) ⊕ ((List Bool × Int × Int) ⊕ ((List Bool × Int) ⊕ ((List Bool × Int × Int) ⊕ (Int ⊕ Bool)))))).bind (Sum.elim (fun ((j3_9,j3_10):(List Bool × Int))=>some (.inl (j3_9,j3_10,(wr (l2_40 + 1))))) some)) else (some (.inr (.inl (l2_9,l2_10))))) FUEL (l1_9,l1_10,0)).bind (Sum.elim (fun ((l2x_9,l2x_10):(List Bool × Int))=>some (.inl (l2x_9,l2x_10,(wr (l1_26 + 1))))) some))) else (some (.inr (.inl l1_10)))) FUEL ((List.replicate (a1.length:Int).toNat (false:Bool)),0,0)).bind (Sum.elim (fun (l1x_10:Int)=>some (decide (l1x_10 = (a1.length:Int)))) some)
theorem f21_ok (a0:GConsort) (a1:List GTake) (a2:Int) (a3:Int) (r:Bool) (h:f21 a0 a1 a2 a3 = some r):APure Try.prog 21 [E_GConsort a0,.sl false (a1.map E_GTake),.i a2,.i a3] (.bool r):=by
 refine apure (clK (cl_GConsort a0) (clK (cleanMap a1 _ cl_GTake) (clK rfl (clK rfl clZ)))) rfl ?_
 let v_0:AV:=.sl false (a1.map E_GTake)
 refine run_f 91 [.tmp 8] (c21 0) (zipE [0,1,2,3] [E_GConsort a0,v_0,.i a2,.i a3]) (by kernel_rfl) (by kernel_rfl) (by kernel_rfl) rfl ?_
 unfold f21 at h
 let b_0:Blk:=.cells 1 [E_GConsort a0]
 refine run1z (c21 2) [] [1,2,3,4] [v_0,.i a2,.i a3,.mp 0 0 0] ⟨[(0,b_0)],1⟩ _ (by kernel_rfl) cj0 ?_
 obtain ⟨hn1,h⟩:=needE h
 obtain ⟨hn2,h⟩:=needE h
 let b_1:Blk:=.cells 1 ((List.replicate (a1.length:Int).toNat (false:Bool)).map AV.bool)
 let s_0:St:=⟨[(1,b_1),(0,b_0)],2⟩
 refine run1z (c21 4) [{},{ k:=1,n:=a1.length },{ k:=1,n:=(a1.length:Int).toNat,l:=(List.replicate (a1.length:Int).toNat (false:Bool)).map AV.bool }] [1,2,3,4,9] [v_0,.i a2,.i a3,.mp 0 0 0,.ms 1 0 (a1.length:Int).toNat] s_0 _ (by kernel_rfl) (cjC (mapLen a1 E_GTake) (cjC (hn1) (cjC (Int.le_refl (a1.length:Int)) (cjC (hn2) (cjC (Eq.refl ((a1.length:Int).toNat)) (cj1 (mapRep (a1.length:Int).toNat AV.bool (false:Bool)))))))) ?_
 refine run_i 2 [] [1,2,3,4,9] [v_0,.i a2,.i a3,.mp 0 0 0,.ms 1 0 (a1.length:Int).toNat] (xs:=[v_0,.i a2,.i a3,.mp 0 0 0,.ms 1 0 (List.replicate (a1.length:Int).toNat (false:Bool)).length]) (S2:=s_0) ?_ (by intro i e; cases e <;> exact Nat.le_of_ble_eq_true rfl) (by kernel_rfl) (by kernel_rfl) (by kernel_rfl) (.k (.c (cleanMap _ _ cl_GTake)) (.k (.c rfl) (.k (.c rfl) (.k (.mp rfl rfl) (.k (.e rfl rfl (by simp)) .z))))) (.k rfl (.cells (.r (cleanMap _ _ cl_bool))) (.k rfl (.cells (.k (.c (cl_GConsort a0)) .z)) .z))
 refine run1z (c21 6) [] [1,2,3,4,9,10] [v_0,.i a2,.i a3,.mp 0 0 0,.ms 1 0 (List.replicate (a1.length:Int).toNat (false:Bool)).length,.i 0] s_0 _ (by kernel_rfl) cj0 ?_
 refine run_s (c21 7) (c21 87) (by kernel_rfl) ?_
 let v_1:AV:=.sl false (a0.pieces.map E_GPiece)
 let v_2:AV:=.i (a0.pieces.length:Int)
 refine run1z (c21 9) [{},{},{ k:=1,n:=a0.pieces.length }] [1,2,3,9,10,24,25,26] [v_0,.i a2,.i a3,.ms 1 0 (List.replicate (a1.length:Int).toNat (false:Bool)).length,.i 0,v_1,v_2,.i 0] ⟨[(1,b_1)],2⟩ _ (by kernel_rfl) (cj1 (mapLen a0.pieces E_GPiece)) ?_
 obtain ⟨ol1x,hll1x,h⟩:=bindE h
 refine run_tq (fun (l1x_10:Int)=>(zipE [1,10] [v_0,.i l1x_10])) (fun (l1x_10:Int)=>⟨[],2⟩) (fun j=>ol1x = .inl j) (fun kl1=>?_) ?_
 ·refine run_b 0 (c21 10) (by kernel_rfl) ?_
  refine run_l (c21 11) _ hll1x (fun ((l1_9,l1_10,l1_26):(List Bool × Int × Int))=>(zipE [1,2,3,9,10,24,25,26] [v_0,.i a2,.i a3,.ms 1 0 l1_9.length,.i l1_10,v_1,v_2,.i l1_26])) (fun ((l1_9,l1_10,l1_26):(List Bool × Int × Int))=>⟨[(1,.cells 1 (l1_9.map AV.bool))],2⟩) [] (by intro i e; cases e <;> exact Nat.le_of_ble_eq_true rfl) (by kernel_rfl) (mkInto (ks:=[1,2,3,9,10,24,25,26]) (ys:=[v_0,.i a2,.i a3,.ms 1 0 (List.replicate (a1.length:Int).toNat (false:Bool)).length,.i 0,v_1,v_2,.i 0]) (by kernel_rfl) (by kernel_rfl) (.k (.c (cleanMap _ _ cl_GTake)) (.k (.c rfl) (.k (.c rfl) (.k (.ms rfl rfl) (.k (.c rfl) (.k (.c (cleanMap _ _ cl_GPiece)) (.k (.c rfl) (.k (.c rfl) .z)))))))) (.k rfl (.cells (.r (cleanMap _ _ cl_bool))) .z)) ?_
  rintro ⟨l1_9,l1_10,l1_26⟩ out hl1 rl1
  let v_3:AV:=.ms 1 0 l1_9.length
  let b_2:Blk:=.cells 1 (l1_9.map AV.bool)
  refine run1z (c21 13) [] [1,2,3,9,10,24,25,26,27] [v_0,.i a2,.i a3,v_3,.i l1_10,v_1,v_2,.i l1_26,.bool (decide (l1_26 < (a0.pieces.length:Int)))] ⟨[(1,b_2)],2⟩ _ (by kernel_rfl) cj0 ?_
  refine run_s (c21 14) (c21 17) (by kernel_rfl) ?_
  rcases iteE hl1 with ⟨hc3,hl1⟩ | ⟨hc3,hl1⟩
  ·refine run_cT 27 (c21 15) (c21 16) (decide (l1_26 < (a0.pieces.length:Int))) hc3 (by kernel_rfl) (by kernel_rfl) ?_
   refine run_k (by kernel_rfl) ?_
   refine thenN ?_
   refine run_s (c21 18) (c21 86) (by kernel_rfl) ?_
   refine run_b 1 (c21 19) (by kernel_rfl) ?_
   obtain ⟨y4,hy4,hl1⟩:=bindE hl1
   let b_3:Blk:=.cells 3 [E_GPiece y4]
   let s_1:St:=⟨[(2,b_3),(1,b_2)],3⟩
   refine run1z (c21 21) [{},{ k:=1,x:=E_GPiece y4 }] [1,2,3,9,10,11,12,24,25,26] [v_0,.i a2,.i a3,v_3,.i l1_10,.i l1_26,.mp 2 0 0,v_1,v_2,.i l1_26] s_1 _ (by kernel_rfl) (cjC ((ixE hy4).1) (cj1 (mapGet E_GPiece (ixE hy4).2))) ?_
   obtain ⟨r5,hr5,hl1⟩:=bindE hl1
   let v_4:AV:=.sl false (r5.1.map E_GNote)
   refine run1z (c21 23) [{},{ c:=some (.tup [v_4,.i r5.2],s_1) }] [1,2,3,9,10,11,13,14,24,25,26] [v_0,.i a2,.i a3,v_3,.i l1_10,.i l1_26,v_4,.i r5.2,v_1,v_2,.i l1_26] ⟨[(1,b_2)],3⟩ _ (by kernel_rfl) (cj1 (f32_ok y4 _ hr5 s_1)) ?_
   refine run_s (c21 24) (c21 31) (by kernel_rfl) ?_
   refine run1z (c21 26) [] [1,2,3,9,10,11,13,24,25,26,37] [v_0,.i a2,.i a3,v_3,.i l1_10,.i l1_26,v_4,v_1,v_2,.i l1_26,.bool (decide (r5.2 ≠ 0))] ⟨[(1,b_2)],3⟩ _ (by kernel_rfl) cj0 ?_
   rcases iteE hl1 with ⟨hc6,hl1⟩ | ⟨hc6,hl1⟩
   ·refine run_cT 37 (c21 27) (c21 30) (decide (r5.2 ≠ 0)) hc6 (by kernel_rfl) (by kernel_rfl) ?_
    refine run1z (c21 29) [] [8] [.bool false] ⟨[],3⟩ _ (by kernel_rfl) cj0 ?_
    replace hl1:=Option.some.inj hl1; subst hl1
    have hr:=rl1 _ rfl
    subst hr
    replace h:=elimR h
    refine run_t (by kernel_rfl) ?_
    refine thenR ?_
    refine inbR ?_
    refine thenR ?_
    refine ⟨⟨_,rfl⟩,?_⟩
    refine inbR ?_
    refine thenR ?_
    replace h:=Option.some.inj h; subst h
    exact fin_r (by kernel_rfl) rfl
   ·refine run_cF 37 (c21 27) (c21 30) (decide (r5.2 ≠ 0)) hc6 (by kernel_rfl) (by kernel_rfl) ?_
    refine run_k (by kernel_rfl) ?_
    refine thenN ?_
    let v_5:AV:=.i (r5.1.length:Int)
    refine run1z (c21 33) [{},{ k:=1,n:=r5.1.length }] [1,2,3,9,10,11,24,25,26,38,39,40] [v_0,.i a2,.i a3,v_3,.i l1_10,.i l1_26,v_1,v_2,.i l1_26,v_4,v_5,.i 0] ⟨[(1,b_2)],3⟩ _ (by kernel_rfl) (cj1 (mapLen r5.1 E_GNote)) ?_
    obtain ⟨ol2x,hll2x,hl1⟩:=bindE hl1
    refine run_tq (fun ((l2x_9,l2x_10):(List Bool × Int))=>(zipE [1,2,3,9,10,24,25,26] [v_0,.i a2,.i a3,.ms 1 0 l2x_9.length,.i l2x_10,v_1,v_2,.i l1_26])) (fun ((l2x_9,l2x_10):(List Bool × Int))=>⟨[(1,.cells 1 (l2x_9.map AV.bool))],3⟩) (fun j=>ol2x = .inl j) (fun kl2=>?_) ?_
    ·refine run_b 2 (c21 34) (by kernel_rfl) ?_
     refine run_l (c21 35) _ hll2x (fun ((l2_9,l2_10,l2_40):(List Bool × Int × Int))=>(zipE [1,2,3,9,10,11,24,25,26,38,39,40] [v_0,.i a2,.i a3,.ms 1 0 l2_9.length,.i l2_10,.i l1_26,v_1,v_2,.i l1_26,v_4,v_5,.i l2_40])) (fun ((l2_9,l2_10,l2_40):(List Bool × Int × Int))=>⟨[(1,.cells 1 (l2_9.map AV.bool))],3⟩) [] (by intro i e; cases e <;> exact Nat.le_of_ble_eq_true rfl) (by kernel_rfl) (mkInto (ks:=[1,2,3,9,10,11,24,25,26,38,39,40]) (ys:=[v_0,.i a2,.i a3,v_3,.i l1_10,.i l1_26,v_1,v_2,.i l1_26,v_4,v_5,.i 0]) (by kernel_rfl) (by kernel_rfl) (.k (.c (cleanMap _ _ cl_GTake)) (.k (.c rfl) (.k (.c rfl) (.k (.ms rfl rfl) (.k (.c rfl) (.k (.c rfl) (.k (.c (cleanMap _ _ cl_GPiece)) (.k (.c rfl) (.k (.c rfl) (.k (.c (cleanMap _ _ cl_GNote)) (.k (.c rfl) (.k (.c rfl) .z)))))))))))) (.k rfl (.cells (.r (cleanMap _ _ cl_bool))) .z)) ?_
     rintro ⟨l2_9,l2_10,l2_40⟩ out hl2 rl2
     let v_6:AV:=.ms 1 0 l2_9.length
     let b_4:Blk:=.cells 1 (l2_9.map AV.bool)
     refine run1z (c21 37) [] [1,2,3,9,10,11,24,25,26,38,39,40,41] [v_0,.i a2,.i a3,v_6,.i l2_10,.i l1_26,v_1,v_2,.i l1_26,v_4,v_5,.i l2_40,.bool (decide (l2_40 < (r5.1.length:Int)))] ⟨[(1,b_4)],3⟩ _ (by kernel_rfl) cj0 ?_
     refine run_s (c21 38) (c21 41) (by kernel_rfl) ?_
     rcases iteE hl2 with ⟨hc7,hl2⟩ | ⟨hc7,hl2⟩
     ·refine run_cT 41 (c21 39) (c21 40) (decide (l2_40 < (r5.1.length:Int))) hc7 (by kernel_rfl) (by kernel_rfl) ?_
      refine run_k (by kernel_rfl) ?_
      refine thenN ?_
      obtain ⟨oj3,hj3,hl2⟩:=bindE hl2
      refine run_jq (c21 42) (c21 85) (fun ((j3_9,j3_10):(List Bool × Int))=>(zipE [1,2,3,9,10,11,24,25,26,38,39,40] [v_0,.i a2,.i a3,.ms 1 0 j3_9.length,.i j3_10,.i l1_26,v_1,v_2,.i l1_26,v_4,v_5,.i l2_40])) (fun ((j3_9,j3_10):(List Bool × Int))=>⟨[(1,.cells 1 (j3_9.map AV.bool))],5⟩) (fun j=>oj3 = .inl j) (by kernel_rfl) (fun kj3=>?_) ?_
      ·refine run_b 3 (c21 43) (by kernel_rfl) ?_
       obtain ⟨y8,hy8,hj3⟩:=bindE hj3
       let b_5:Blk:=.cells 5 [E_GNote y8]
       let s_2:St:=⟨[(3,b_5),(1,b_4)],4⟩
       refine run1z (c21 45) [{ k:=1,x:=E_GNote y8 }] [1,2,3,9,10,11,16,24,25,26,38,39,40] [v_0,.i a2,.i a3,v_6,.i l2_10,.i l1_26,.mp 3 0 0,v_1,v_2,.i l1_26,v_4,v_5,.i l2_40] s_2 _ (by kernel_rfl) (cjC ((ixE hy8).1) (cj1 (mapGet E_GNote (ixE hy8).2))) ?_
       refine run_s (c21 46) (c21 51) (by kernel_rfl) ?_
       refine run1z (c21 48) [] [1,2,3,9,10,11,16,24,25,26,38,39,40,46] [v_0,.i a2,.i a3,v_6,.i l2_10,.i l1_26,.mp 3 0 0,v_1,v_2,.i l1_26,v_4,v_5,.i l2_40,.bool (decide (l1_26 = a2))] s_2 _ (by kernel_rfl) cj0 ?_
       rcases iteE hj3 with ⟨hc9,hj3⟩ | ⟨hc9,hj3⟩
       ·refine run_cT 46 (c21 49) (c21 50) (decide (l1_26 = a2)) hc9 (by kernel_rfl) (by kernel_rfl) ?_
        replace hj3:=Option.some.inj hj3; subst hj3
        refine run_i 5 [] [1,2,3,9,10,11,24,25,26,38,39,40] [v_0,.i a2,.i a3,v_6,.i l2_10,.i l1_26,v_1,v_2,.i l1_26,v_4,v_5,.i l2_40] (xs:=[v_0,.i a2,.i a3,v_6,.i l2_10,.i l1_26,v_1,v_2,.i l1_26,v_4,v_5,.i l2_40]) (S2:=⟨[(1,b_4)],5⟩) ?_ (by intro i e; cases e <;> exact Nat.le_of_ble_eq_true rfl) (by kernel_rfl) (by kernel_rfl) (by kernel_rfl) (.k (.c (cleanMap _ _ cl_GTake)) (.k (.c rfl) (.k (.c rfl) (.k (.ms rfl rfl) (.k (.c rfl) (.k (.c rfl) (.k (.c (cleanMap _ _ cl_GPiece)) (.k (.c rfl) (.k (.c rfl) (.k (.c (cleanMap _ _ cl_GNote)) (.k (.c rfl) (.k (.c rfl) .z)))))))))))) (.k rfl (.cells (.r (cleanMap _ _ cl_bool))) .z)
        refine run_e 3 (by kernel_rfl) ?_
        refine thenE ?_
        refine inbE ?_
        refine thenN ?_
        exact kj3 (l2_9,l2_10) rfl
       ·refine run_cF 46 (c21 49) (c21 50) (decide (l1_26 = a2)) hc9 (by kernel_rfl) (by kernel_rfl) ?_
        refine run_k (by kernel_rfl) ?_
        refine thenN ?_
        let v_7:AV:=.i (wr (l2_10 + 1))
        refine run1z (c21 53) [] [1,2,3,9,10,11,16,24,25,26,38,39,40] [v_0,.i a2,.i a3,v_6,v_7,.i l1_26,.mp 3 0 0,v_1,v_2,.i l1_26,v_4,v_5,.i l2_40] s_2 _ (by kernel_rfl) cj0 ?_
        refine run1z (c21 55) [] [1,2,3,9,10,11,16,17,24,25,26,38,39,40] [v_0,.i a2,.i a3,v_6,v_7,.i l1_26,.mp 3 0 0,.bool false,v_1,v_2,.i l1_26,v_4,v_5,.i l2_40] s_2 _ (by kernel_rfl) cj0 ?_
        refine run_s (c21 56) (c21 78) (by kernel_rfl) ?_
        let v_8:AV:=.i (a1.length:Int)
        refine run1z (c21 58) [{},{ k:=1,n:=a1.length }] [1,2,3,9,10,11,16,17,24,25,26,38,39,40,49,50,51] [v_0,.i a2,.i a3,v_6,v_7,.i l1_26,.mp 3 0 0,.bool false,v_1,v_2,.i l1_26,v_4,v_5,.i l2_40,v_0,v_8,.i 0] s_2 _ (by kernel_rfl) (cj1 (mapLen a1 E_GTake)) ?_
        obtain ⟨ol4x,hll4x,hj3⟩:=bindE hj3
        refine run_tq (fun ((l4x_9,l4x_17):(List Bool × Bool))=>(zipE [1,2,3,9,10,11,17,24,25,26,38,39,40] [v_0,.i a2,.i a3,.ms 1 0 l4x_9.length,v_7,.i l1_26,.bool l4x_17,v_1,v_2,.i l1_26,v_4,v_5,.i l2_40])) (fun ((l4x_9,l4x_17):(List Bool × Bool))=>⟨[(1,.cells 1 (l4x_9.map AV.bool))],5⟩) (fun j=>ol4x = j) (fun kl4=>?_) ?_
        ·refine run_b 4 (c21 59) (by kernel_rfl) ?_
         refine run_l (c21 60) _ hll4x (fun (l4_51:Int)=>(zipE [1,2,3,9,10,11,16,17,24,25,26,38,39,40,49,50,51] [v_0,.i a2,.i a3,v_6,v_7,.i l1_26,.mp 3 0 0,.bool false,v_1,v_2,.i l1_26,v_4,v_5,.i l2_40,v_0,v_8,.i l4_51])) (fun (l4_51:Int)=>s_2) [] (by intro i e; cases e <;> exact Nat.le_of_ble_eq_true rfl) (by kernel_rfl) (mkInto (ks:=[1,2,3,9,10,11,16,17,24,25,26,38,39,40,49,50,51]) (ys:=[v_0,.i a2,.i a3,v_6,v_7,.i l1_26,.mp 3 0 0,.bool false,v_1,v_2,.i l1_26,v_4,v_5,.i l2_40,v_0,v_8,.i 0]) (by kernel_rfl) (by kernel_rfl) (.k (.c (cleanMap _ _ cl_GTake)) (.k (.c rfl) (.k (.c rfl) (.k (.ms rfl rfl) (.k (.c rfl) (.k (.c rfl) (.k (.mp rfl rfl) (.k (.c rfl) (.k (.c (cleanMap _ _ cl_GPiece)) (.k (.c rfl) (.k (.c rfl) (.k (.c (cleanMap _ _ cl_GNote)) (.k (.c rfl) (.k (.c rfl) (.k (.c (cleanMap _ _ cl_GTake)) (.k (.c rfl) (.k (.c rfl) .z))))))))))))))))) (.k rfl (.cells (.k (.c (cl_GNote y8)) .z)) (.k rfl (.cells (.r (cleanMap _ _ cl_bool))) .z))) ?_
         rintro l4_51 out hl4 rl4
         refine run1z (c21 62) [] [1,2,3,9,10,11,16,17,24,25,26,38,39,40,49,50,51,52] [v_0,.i a2,.i a3,v_6,v_7,.i l1_26,.mp 3 0 0,.bool false,v_1,v_2,.i l1_26,v_4,v_5,.i l2_40,v_0,v_8,.i l4_51,.bool (decide (l4_51 < (a1.length:Int)))] s_2 _ (by kernel_rfl) cj0 ?_
         refine run_s (c21 63) (c21 66) (by kernel_rfl) ?_
         rcases iteE hl4 with ⟨hc10,hl4⟩ | ⟨hc10,hl4⟩
         ·refine run_cT 52 (c21 64) (c21 65) (decide (l4_51 < (a1.length:Int))) hc10 (by kernel_rfl) (by kernel_rfl) ?_
          refine run_k (by kernel_rfl) ?_
          refine thenN ?_
          refine run_s (c21 67) (c21 77) (by kernel_rfl) ?_
          refine run_b 5 (c21 68) (by kernel_rfl) ?_
          obtain ⟨y11,hy11,hl4⟩:=bindE hl4
          refine run1z (c21 70) [{},{ k:=1,x:=E_GTake y11 }] [1,2,3,9,10,11,16,17,18,19,24,25,26,38,39,40,49,50,51] [v_0,.i a2,.i a3,v_6,v_7,.i l1_26,.mp 3 0 0,.bool false,.i l4_51,.mp 4 0 0,v_1,v_2,.i l1_26,v_4,v_5,.i l2_40,v_0,v_8,.i l4_51] ⟨[(4,.cells 5 [E_GTake y11]),(3,b_5),(1,b_4)],5⟩ _ (by kernel_rfl) (cjC ((ixE hy11).1) (cj1 (mapGet E_GTake (ixE hy11).2))) ?_
          obtain ⟨j5_78,hj5,hl4⟩:=bindE hl4
          let s_3:St:=⟨[(3,b_5),(1,b_4)],5⟩
          refine run_gq (c21 72) (fun (j5_78:Bool)=>(zipE [1,2,3,9,10,11,16,17,18,24,25,26,38,39,40,49,50,51,78] [v_0,.i a2,.i a3,v_6,v_7,.i l1_26,.mp 3 0 0,.bool false,.i l4_51,v_1,v_2,.i l1_26,v_4,v_5,.i l2_40,v_0,v_8,.i l4_51,.bool j5_78])) (fun (j5_78:Bool)=>s_3) (fun j=>j5_78 = j) (fun kj5=>?_) ?_
          ·obtain ⟨y12,hy12,hj5⟩:=bindE hj5
           rcases iteE hj5 with ⟨hc13,hj5⟩ | ⟨hc13,hj5⟩
           ·replace hj5:=Option.some.inj hj5; subst hj5
            exact run1z (c21 72) [{},{},{ k:=1,n:=l4_51.toNat },{ k:=1,x:=AV.bool y12 },{},{},{},{},{},{},{},{},{},{},{},{},{},{},{},{},{},{},{ k:=1,b:=true }] [1,2,3,9,10,11,16,17,18,24,25,26,38,39,40,49,50,51,78] [v_0,.i a2,.i a3,v_6,v_7,.i l1_26,.mp 3 0 0,.bool false,.i l4_51,v_1,v_2,.i l1_26,v_4,v_5,.i l2_40,v_0,v_8,.i l4_51,.bool (eq_GTake y11 (⟨l1_26,y8.course,y8.pitch,(wr (y8.from_ + a3)),(wr (y8.to_ + a3))⟩:GTake))] s_3 _ (by kernel_rfl) (cjC ((ixE hy12).1) (cjC (ixLt hy12) (cjC (Nat.zero_add l4_51.toNat) (cjC (mapGet AV.bool (ixE hy12).2) (cjC (hc13) (cjC (hc13) (cjC (hc13) (cjC (hc13) (cjC (hc13) (cjC (hc13) (cjC (hc13) (cjC (hc13) (cjC (hc13) (cjC (hc13) (cjC (hc13) (cjC (hc13) (cjC (hc13) (cjC (hc13) (cjC (hc13) (cjC (hc13) (cj1 (hc13)))))))))))))))))))))) (kj5 (eq_GTake y11 (⟨l1_26,y8.course,y8.pitch,(wr (y8.from_ + a3)),(wr (y8.to_ + a3))⟩:GTake)) rfl)
           ·replace hj5:=Option.some.inj hj5; subst hj5
            exact run1z (c21 72) [{},{},{ k:=1,n:=l4_51.toNat },{ k:=1,x:=AV.bool y12 },{},{},{ g:=false },{ g:=false },{ g:=false },{ g:=false },{ g:=false },{ g:=false },{ g:=false },{ g:=false },{ g:=false },{ g:=false },{ g:=false },{ g:=false },{ g:=false },{ g:=false },{ g:=false },{ g:=false },{ k:=1,b:=false }] [1,2,3,9,10,11,16,17,18,24,25,26,38,39,40,49,50,51,78] [v_0,.i a2,.i a3,v_6,v_7,.i l1_26,.mp 3 0 0,.bool false,.i l4_51,v_1,v_2,.i l1_26,v_4,v_5,.i l2_40,v_0,v_8,.i l4_51,.bool false] s_3 _ (by kernel_rfl) (cjC ((ixE hy12).1) (cjC (ixLt hy12) (cjC (Nat.zero_add l4_51.toNat) (cjC (mapGet AV.bool (ixE hy12).2) (cjC (hc13) (cjC (hc13) (cjC (hc13) (cjC (hc13) (cjC (hc13) (cjC (hc13) (cjC (hc13) (cjC (hc13) (cjC (hc13) (cjC (hc13) (cjC (hc13) (cjC (hc13) (cjC (hc13) (cjC (hc13) (cjC (hc13) (cjC (hc13) (cj1 (hc13)))))))))))))))))))))) (kj5 false rfl)
          ·rintro _ rfl
           rcases iteE hl4 with ⟨hc14,hl4⟩ | ⟨hc14,hl4⟩
           ·refine run_cT 78 (c21 73) (c21 76) j5_78 hc14 (by kernel_rfl) (by kernel_rfl) ?_
            obtain ⟨y15,hy15,hl4⟩:=bindE hl4
            let b_6:Blk:=.cells 1 ((l2_9.set l4_51.toNat true).map AV.bool)
            refine run1z (c21 75) [{},{},{ k:=1,n:=l4_51.toNat },{ k:=1,x:=AV.bool y15,l:=(l2_9.set l4_51.toNat true).map AV.bool }] [1,2,3,9,10,11,17,24,25,26,38,39,40] [v_0,.i a2,.i a3,v_6,v_7,.i l1_26,.bool true,v_1,v_2,.i l1_26,v_4,v_5,.i l2_40] ⟨[(1,b_6)],5⟩ _ (by kernel_rfl) (cjC ((ixE hy15).1) (cjC (ixLt hy15) (cjC (Nat.zero_add l4_51.toNat) (cjC (mapGet AV.bool (ixE hy15).2) (cjC ((by decide:(1:Nat) ≤ 1)) (cj1 (mapSet l2_9 AV.bool l4_51.toNat true))))))) ?_
            refine run_i 5 [] [1,2,3,9,10,11,17,24,25,26,38,39,40] [v_0,.i a2,.i a3,v_6,v_7,.i l1_26,.bool true,v_1,v_2,.i l1_26,v_4,v_5,.i l2_40] (xs:=[v_0,.i a2,.i a3,.ms 1 0 (l2_9.set l4_51.toNat true).length,v_7,.i l1_26,.bool true,v_1,v_2,.i l1_26,v_4,v_5,.i l2_40]) (S2:=⟨[(1,b_6)],5⟩) ?_ (by intro i e; cases e <;> exact Nat.le_of_ble_eq_true rfl) (by kernel_rfl) (by kernel_rfl) (by kernel_rfl) (.k (.c (cleanMap _ _ cl_GTake)) (.k (.c rfl) (.k (.c rfl) (.k (.e rfl rfl (by simp)) (.k (.c rfl) (.k (.c rfl) (.k (.c rfl) (.k (.c (cleanMap _ _ cl_GPiece)) (.k (.c rfl) (.k (.c rfl) (.k (.c (cleanMap _ _ cl_GNote)) (.k (.c rfl) (.k (.c rfl) .z))))))))))))) (.k rfl (.cells (.r (cleanMap _ _ cl_bool))) .z)
            replace hl4:=Option.some.inj hl4; subst hl4
            have hr:=rl4 _ rfl
            subst hr
            refine run_e 4 (by kernel_rfl) ?_
            refine inbX rfl ?_
            refine thenE ?_
            refine ⟨⟨_,rfl⟩,?_⟩
            refine inbE ?_
            exact kl4 ((l2_9.set l4_51.toNat true),true) rfl
           ·refine run_cF 78 (c21 73) (c21 76) j5_78 hc14 (by kernel_rfl) (by kernel_rfl) ?_
            refine run_k (by kernel_rfl) ?_
            refine inbN ?_
            refine thenN ?_
            refine run0z [] [1,2,3,9,10,11,16,17,24,25,26,38,39,40,49,50,51] [v_0,.i a2,.i a3,v_6,v_7,.i l1_26,.mp 3 0 0,.bool false,v_1,v_2,.i l1_26,v_4,v_5,.i l2_40,v_0,v_8,.i (wr (l4_51 + 1))] s_3 _ (by kernel_rfl) cj0 ?_
            replace hl4:=Option.some.inj hl4; subst hl4
            exact ⟨_,rfl,pi [],mkInto (ks:=[1,2,3,9,10,11,16,17,24,25,26,38,39,40,49,50,51]) (ys:=[v_0,.i a2,.i a3,v_6,v_7,.i l1_26,.mp 3 0 0,.bool false,v_1,v_2,.i l1_26,v_4,v_5,.i l2_40,v_0,v_8,.i (wr (l4_51 + 1))]) (by kernel_rfl) (by kernel_rfl) (.k (.c (cleanMap _ _ cl_GTake)) (.k (.c rfl) (.k (.c rfl) (.k (.ms rfl rfl) (.k (.c rfl) (.k (.c rfl) (.k (.mp rfl rfl) (.k (.c rfl) (.k (.c (cleanMap _ _ cl_GPiece)) (.k (.c rfl) (.k (.c rfl) (.k (.c (cleanMap _ _ cl_GNote)) (.k (.c rfl) (.k (.c rfl) (.k (.c (cleanMap _ _ cl_GTake)) (.k (.c rfl) (.k (.c rfl) .z))))))))))))))))) (.k rfl (.cells (.k (.c (cl_GNote y8)) .z)) (.k rfl (.cells (.r (cleanMap _ _ cl_bool))) .z))⟩
         ·refine run_cF 52 (c21 64) (c21 65) (decide (l4_51 < (a1.length:Int))) hc10 (by kernel_rfl) (by kernel_rfl) ?_
          replace hl4:=Option.some.inj hl4; subst hl4
          have hr:=rl4 _ rfl
          subst hr
          refine run_i 5 [] [1,2,3,9,10,11,17,24,25,26,38,39,40] [v_0,.i a2,.i a3,v_6,v_7,.i l1_26,.bool false,v_1,v_2,.i l1_26,v_4,v_5,.i l2_40] (xs:=[v_0,.i a2,.i a3,v_6,v_7,.i l1_26,.bool false,v_1,v_2,.i l1_26,v_4,v_5,.i l2_40]) (S2:=⟨[(1,b_4)],5⟩) ?_ (by intro i e; cases e <;> exact Nat.le_of_ble_eq_true rfl) (by kernel_rfl) (by kernel_rfl) (by kernel_rfl) (.k (.c (cleanMap _ _ cl_GTake)) (.k (.c rfl) (.k (.c rfl) (.k (.ms rfl rfl) (.k (.c rfl) (.k (.c rfl) (.k (.c rfl) (.k (.c (cleanMap _ _ cl_GPiece)) (.k (.c rfl) (.k (.c rfl) (.k (.c (cleanMap _ _ cl_GNote)) (.k (.c rfl) (.k (.c rfl) .z))))))))))))) (.k rfl (.cells (.r (cleanMap _ _ cl_bool))) .z)
          refine run_e 4 (by kernel_rfl) ?_
          refine thenE ?_
          refine ⟨⟨_,rfl⟩,?_⟩
          refine inbE ?_
          exact kl4 (l2_9,false) rfl
        ·rintro ⟨l4x_9,l4x_17⟩ rfl
         refine thenN ?_
         refine run1z (c21 80) [] [1,2,3,9,10,11,24,25,26,38,39,40,84] [v_0,.i a2,.i a3,.ms 1 0 l4x_9.length,v_7,.i l1_26,v_1,v_2,.i l1_26,v_4,v_5,.i l2_40,.bool (!l4x_17)] ⟨[(1,.cells 1 (l4x_9.map AV.bool))],5⟩ _ (by kernel_rfl) cj0 ?_
         rcases iteE hj3 with ⟨hc16,hj3⟩ | ⟨hc16,hj3⟩
         ·refine run_cT 84 (c21 81) (c21 84) (!l4x_17) hc16 (by kernel_rfl) (by kernel_rfl) ?_
          refine run1z (c21 83) [] [8] [.bool false] ⟨[],5⟩ _ (by kernel_rfl) cj0 ?_
          replace hj3:=Option.some.inj hj3; subst hj3
          replace hl2:=elimR hl2
          replace hl2:=Option.some.inj hl2; subst hl2
          have hr:=rl2 _ rfl
          subst hr
          replace hl1:=elimR hl1
          replace hl1:=Option.some.inj hl1; subst hl1
          have hr:=rl1 _ rfl
          subst hr
          replace h:=elimR h
          refine run_t (by kernel_rfl) ?_
          refine inbR ?_
          refine thenR ?_
          refine ⟨⟨_,rfl⟩,?_⟩
          refine inbR ?_
          refine inbR ?_
          refine thenR ?_
          refine ⟨⟨_,rfl⟩,?_⟩
          refine inbR ?_
          refine thenR ?_
          replace h:=Option.some.inj h; subst h
          exact fin_r (by kernel_rfl) rfl
         ·refine run_cF 84 (c21 81) (c21 84) (!l4x_17) hc16 (by kernel_rfl) (by kernel_rfl) ?_
          replace hj3:=Option.some.inj hj3; subst hj3
          refine awp_p [1,2,3,9,10,11,24,25,26,38,39,40] [1] (zipE [1,2,3,9,10,11,24,25,26,38,39,40] [v_0,.i a2,.i a3,.ms 1 0 l4x_9.length,v_7,.i l1_26,v_1,v_2,.i l1_26,v_4,v_5,.i l2_40]) ⟨[(1,.cells 1 (l4x_9.map AV.bool))],5⟩ (by kernel_rfl) (?_)
          refine run_k (by kernel_rfl) ?_
          refine inbN ?_
          refine thenN ?_
          exact kj3 (l4x_9,(wr (l2_10 + 1))) rfl
      ·rintro ⟨j3_9,j3_10⟩ rfl
       replace hl2:=elimL hl2
       refine run0z [] [1,2,3,9,10,11,24,25,26,38,39,40] [v_0,.i a2,.i a3,.ms 1 0 j3_9.length,.i j3_10,.i l1_26,v_1,v_2,.i l1_26,v_4,v_5,.i (wr (l2_40 + 1))] ⟨[(1,.cells 1 (j3_9.map AV.bool))],5⟩ _ (by kernel_rfl) cj0 ?_
       replace hl2:=Option.some.inj hl2; subst hl2
       exact ⟨_,rfl,pi [],mkInto (ks:=[1,2,3,9,10,11,24,25,26,38,39,40]) (ys:=[v_0,.i a2,.i a3,.ms 1 0 j3_9.length,.i j3_10,.i l1_26,v_1,v_2,.i l1_26,v_4,v_5,.i (wr (l2_40 + 1))]) (by kernel_rfl) (by kernel_rfl) (.k (.c (cleanMap _ _ cl_GTake)) (.k (.c rfl) (.k (.c rfl) (.k (.ms rfl rfl) (.k (.c rfl) (.k (.c rfl) (.k (.c (cleanMap _ _ cl_GPiece)) (.k (.c rfl) (.k (.c rfl) (.k (.c (cleanMap _ _ cl_GNote)) (.k (.c rfl) (.k (.c rfl) .z)))))))))))) (.k rfl (.cells (.r (cleanMap _ _ cl_bool))) .z)⟩
     ·refine run_cF 41 (c21 39) (c21 40) (decide (l2_40 < (r5.1.length:Int))) hc7 (by kernel_rfl) (by kernel_rfl) ?_
      replace hl2:=Option.some.inj hl2; subst hl2
      have hr:=rl2 _ rfl
      subst hr
      refine awp_p [1,2,3,9,10,24,25,26] [1] (zipE [1,2,3,9,10,24,25,26] [v_0,.i a2,.i a3,v_6,.i l2_10,v_1,v_2,.i l1_26]) ⟨[(1,b_4)],3⟩ (by kernel_rfl) (?_)
      refine run_e 2 (by kernel_rfl) ?_
      refine thenE ?_
      refine ⟨⟨_,rfl⟩,?_⟩
      refine inbE ?_
      exact kl2 (l2_9,l2_10) rfl
    ·rintro ⟨l2x_9,l2x_10⟩ rfl
     replace hl1:=elimL hl1
     refine inbN ?_
     refine thenN ?_
     refine run0z [] [1,2,3,9,10,24,25,26] [v_0,.i a2,.i a3,.ms 1 0 l2x_9.length,.i l2x_10,v_1,v_2,.i (wr (l1_26 + 1))] ⟨[(1,.cells 1 (l2x_9.map AV.bool))],3⟩ _ (by kernel_rfl) cj0 ?_
     replace hl1:=Option.some.inj hl1; subst hl1
     exact ⟨_,rfl,pi [],mkInto (ks:=[1,2,3,9,10,24,25,26]) (ys:=[v_0,.i a2,.i a3,.ms 1 0 l2x_9.length,.i l2x_10,v_1,v_2,.i (wr (l1_26 + 1))]) (by kernel_rfl) (by kernel_rfl) (.k (.c (cleanMap _ _ cl_GTake)) (.k (.c rfl) (.k (.c rfl) (.k (.ms rfl rfl) (.k (.c rfl) (.k (.c (cleanMap _ _ cl_GPiece)) (.k (.c rfl) (.k (.c rfl) .z)))))))) (.k rfl (.cells (.r (cleanMap _ _ cl_bool))) .z)⟩
  ·refine run_cF 27 (c21 15) (c21 16) (decide (l1_26 < (a0.pieces.length:Int))) hc3 (by kernel_rfl) (by kernel_rfl) ?_
   replace hl1:=Option.some.inj hl1; subst hl1
   have hr:=rl1 _ rfl
   subst hr
   refine awp_p [1,10] [] (zipE [1,10] [v_0,.i l1_10]) ⟨[],2⟩ (by kernel_rfl) (?_)
   refine run_e 0 (by kernel_rfl) ?_
   refine thenE ?_
   refine ⟨⟨_,rfl⟩,?_⟩
   refine inbE ?_
   exact kl1 l1_10 rfl
 ·rintro l1x_10 rfl
  replace h:=elimL h
  refine thenN ?_
  refine run1z (c21 89) [{},{},{ k:=1,n:=a1.length }] [8] [.bool (decide (l1x_10 = (a1.length:Int)))] ⟨[],2⟩ _ (by kernel_rfl) (cj1 (mapLen a1 E_GTake)) ?_
  refine run_t (by kernel_rfl) ?_
  replace h:=Option.some.inj h; subst h
  exact fin_r (by kernel_rfl) rfl
def f41 (a0:List GTake):Option (List GTake):=((bif (decide (a0 = [])) then (some ([]:List GTake)) else (need (a0.length ≤ maxElems) <| some a0)):Option (List GTake)).bind fun (j1_2:(List GTake))=>some j1_2
theorem f41_ok (a0:List GTake) (r:(List GTake)) (h:f41 a0 = some r):ACalls Try.prog 41 [.ms 0 0 a0.length] ⟨[(0,.cells 5 (a0.map E_GTake))],1⟩ (fun y t=>y = .ms 3 0 r.length ∧ t = ⟨[(3,.cells 5 (r.map E_GTake)),(0,.cells 5 (a0.map E_GTake))],4⟩):=by
 let v_0:AV:=.ms 0 0 a0.length
 refine run_f 8 [.tmp 2] (c41 0) (zipE [0] [v_0]) (by kernel_rfl) (by kernel_rfl) (by kernel_rfl) rfl ?_
 unfold f41 at h
 let b_0:Blk:=.cells 5 (a0.map E_GTake)
 refine run1z (c41 2) [] [0] [v_0] ⟨[(0,b_0)],1⟩ _ (by kernel_rfl) cj0 ?_
 refine run_s (c41 3) (c41 10) (by kernel_rfl) ?_
 refine run_nl (c41 5) (some 4) (zipE [0,3] [v_0,v_0]) (.ms 0 0 a0.length) (by kernel_rfl) ?_
 rintro (_ | _) hb
 ·clear hb
  refine awp_p [0,4] [0] (zipE [0,4] [v_0,.bool false]) ⟨[(0,b_0)],1⟩ (by kernel_rfl) ?_
  refine run_cF 4 (c41 6) (c41 9) false rfl (by kernel_rfl) (by kernel_rfl) ?_
  refine run_k (by kernel_rfl) ?_
  refine thenN ?_
  obtain ⟨j1_2,hj1,h⟩:=bindE h
  refine run_gq (c41 12) (fun (j1_2:(List GTake))=>(zipE [2] [.ms 2 0 j1_2.length])) (fun (j1_2:(List GTake))=>⟨[(2,.cells 5 (j1_2.map E_GTake)),(0,b_0)],3⟩) (fun j=>j1_2 = j) (fun kj1=>?_) ?_
  ·rcases iteE hj1 with ⟨hc1,hj1⟩ | ⟨hc1,hj1⟩
   ·replace hj1:=Option.some.inj hj1; subst hj1
    exact run1z (c41 12) [{},{},{ k:=2 }] [2] [.sl true []] ⟨[(0,b_0)],1⟩ _ (by kernel_rfl) (cjC (mapNilM E_GTake (of_decide_eq_true hc1)) (cj1 (mLe a0 E_GTake))) (run_i 2 [(2,1000000)] [2] [.sl true []] (kj1 ([]:List GTake) rfl) (by intro i e; cases e <;> exact Nat.le_of_ble_eq_true rfl) (by kernel_rfl) (by kernel_rfl) (by kernel_rfl) (.k (.n) .z) (.n rfl rfl rfl (.k rfl (.cells (.r (cleanMap _ _ cl_GTake))) .z)))
   ·obtain ⟨hn2,hj1⟩:=needE hj1
    replace hj1:=Option.some.inj hj1; subst hj1
    exact run1z (c41 12) [{},{},{ k:=1,n:=a0.length,l:=a0.map E_GTake }] [2] [.ms 1 0 a0.length] ⟨[(1,b_0),(0,b_0)],2⟩ _ (by kernel_rfl) (cjC (mapNeM E_GTake (of_decide_eq_false hc1)) (cjC (Eq.refl true) (cjC (bnd0M E_GTake hn2) (cjC (fitsNil (P:=Try.prog) (t:=101)) (cjC (len0M a0 E_GTake) (cjC (app0M a0 E_GTake) (cj1 (mLe a0 E_GTake)))))))) (run_i 2 [(2,1)] [2] [.ms 1 0 a0.length] (kj1 a0 rfl) (by intro i e; cases e <;> exact Nat.le_of_ble_eq_true rfl) (by kernel_rfl) (by kernel_rfl) (by kernel_rfl) (.k (.ms rfl rfl) .z) (.k rfl (.cells (.r (cleanMap _ _ cl_GTake))) (.k rfl (.cells (.r (cleanMap _ _ cl_GTake))) .z)))
  ·rintro _ rfl
   let s_0:St:=⟨[(3,.cells 5 (j1_2.map E_GTake)),(0,b_0)],4⟩
   refine run_i 3 [(3,2)] [2] [.ms 2 0 j1_2.length] (xs:=[.ms 3 0 j1_2.length]) (S2:=s_0) ?_ (by intro i e; cases e <;> exact Nat.le_of_ble_eq_true rfl) (by kernel_rfl) (by kernel_rfl) (by kernel_rfl) (.k (.ms rfl rfl) .z) (.k rfl (.cells (.r (cleanMap _ _ cl_GTake))) (.k rfl (.cells (.r (cleanMap _ _ cl_GTake))) .z))
   refine run_t (by kernel_rfl) ?_
   replace h:=Option.some.inj h; subst h
   exact fin_p [3,0] s_0 (by kernel_rfl) (by kernel_rfl) rfl ⟨rfl,rfl⟩
 ·replace hb:=nilMs (hb rfl)
  replace h:(some ([]:List GTake)) = some r:=by simpa [hb,need,maxElems] using h
  refine awp_p [0,4] [0] (zipE [0,4] [v_0,.bool true]) ⟨[(0,b_0)],1⟩ (by kernel_rfl) ?_
  refine run_cT 4 (c41 6) (c41 9) true rfl (by kernel_rfl) (by kernel_rfl) ?_
  refine run1z (c41 8) [] [2] [.sl true []] ⟨[(0,b_0)],1⟩ _ (by kernel_rfl) cj0 ?_
  let b_1:Blk:=.cells 5 (([]:List GTake).map E_GTake)
  refine run_i 1 [(3,1000000)] [2] [.sl true []] (xs:=[.ms 3 0 ([]:List GTake).length]) (S2:=⟨[(3,b_1),(0,b_0)],4⟩) ?_ (by intro i e; cases e <;> exact Nat.le_of_ble_eq_true rfl) (by kernel_rfl) (by kernel_rfl) (by kernel_rfl) (.k (.n) .z) (.n rfl rfl rfl (.k rfl (.cells (.r (cleanMap _ _ cl_GTake))) .z))
  refine run_t (by kernel_rfl) ?_
  refine thenR ?_
  replace h:=Option.some.inj h; subst h
  exact fin_p [3,0] ⟨[(3,b_1),(0,b_0)],4⟩ (by kernel_rfl) (by kernel_rfl) rfl ⟨rfl,rfl⟩
def f20_1 (a0:GCPlayer):Option (List GTake):=(f41 a0.takes).bind fun r1=>some r1
theorem f20_1_ok (a0:GCPlayer) (r:(List GTake)) (h:f20_1 a0 = some r):ACalls Try.prog 20 [.mp 0 0 0] ⟨[(3,.cells 5 (a0.takes.map E_GTake)),(2,.cells 7 (a0.sounding.l.map E_GCLive)),(1,.cells 3 (a0.desks.map E_GCDesk)),(0,.cells 11 [.agg [.i a0.clock.ticks,.i a0.now,.i a0.end_,.bool a0.waiting,.ms 1 0 a0.desks.length,.i a0.from_,.i a0.to_,.i a0.times,.ms 2 0 a0.sounding.l.length,.fn 31 [],.ms 3 0 a0.takes.length]])],4⟩ (fun y t=>y = .sl false (r.map E_GTake) ∧ t = ⟨[(3,.cells 5 (a0.takes.map E_GTake)),(2,.cells 7 (a0.sounding.l.map E_GCLive)),(1,.cells 3 (a0.desks.map E_GCDesk)),(0,.cells 11 [.agg [.i a0.clock.ticks,.i a0.now,.i a0.end_,.bool a0.waiting,.ms 1 0 a0.desks.length,.i a0.from_,.i a0.to_,.i a0.times,.ms 2 0 a0.sounding.l.length,.fn 31 [],.ms 3 0 a0.takes.length]])],7⟩):=by
 refine run_f 10 [.tmp 2] (c20 0) (zipE [0] [.mp 0 0 0]) (by kernel_rfl) (by kernel_rfl) (by kernel_rfl) rfl ?_
 unfold f20_1 at h
 let v_0:AV:=.ms 2 0 a0.sounding.l.length
 let v_1:AV:=.ms 1 0 a0.desks.length
 let v_2:AV:=.ms 3 0 a0.takes.length
 let v_3:AV:=.i a0.clock.ticks
 let v_4:AV:=.bool a0.waiting
 let w_0:AV:=.agg [v_3,.i a0.now,.i a0.end_,v_4,v_1,.i a0.from_,.i a0.to_,.i a0.times,v_0,.fn 31 [],v_2]
 let b_0:Blk:=.cells 7 (a0.sounding.l.map E_GCLive)
 let b_1:Blk:=.cells 3 (a0.desks.map E_GCDesk)
 let b_2:Blk:=.cells 5 (a0.takes.map E_GTake)
 let s_0:St:=⟨[(3,b_2),(2,b_0),(1,b_1),(0,.cells 11 [w_0])],4⟩
 refine run1z (c20 2) [] [0] [.mp 0 0 0] s_0 _ (by kernel_rfl) cj0 ?_
 refine run_s (c20 3) (c20 10) (by kernel_rfl) ?_
 refine run1z (c20 5) [] [0,4] [.mp 0 0 0,.bool false] s_0 _ (by kernel_rfl) cj0 ?_
 refine run_cF 4 (c20 6) (c20 9) false rfl (by kernel_rfl) (by kernel_rfl) ?_
 refine run_k (by kernel_rfl) ?_
 refine thenN ?_
 obtain ⟨r1,hr1,h⟩:=bindE h
 let v_5:AV:=.ms 6 0 r1.length
 let b_3:Blk:=.cells 5 (r1.map E_GTake)
 let s_1:St:=⟨[(6,b_3),(3,b_2),(2,b_0),(1,b_1),(0,.cells 11 [w_0])],7⟩
 refine run1z (c20 12) [{},{},{},{},{ c:=some (v_5,s_1) }] [2] [v_5] s_1 _ (by kernel_rfl) (cj1 (callF (f41_ok a0.takes _ hr1) [(0,3)] [(6,3),(3,0)] [2,1,0] [v_2] s_0 (.ms 6 0 r1.length) s_1 (by kernel_rfl) (.k (.ms rfl rfl) .z) (.ms rfl rfl) (.k rfl (.cells (.r (cleanMap _ _ cl_GTake))) .z) (.d (x':=b_3) rfl (by kernel_rfl) (.cells (.r (cleanMap _ _ cl_GTake))) (.d (x':=b_2) rfl (by kernel_rfl) (.cells (.r (cleanMap _ _ cl_GTake))) (.f rfl (by kernel_rfl) (.f rfl (by kernel_rfl) (.f rfl (by kernel_rfl) .z))))))) ?_
 let s_2:St:=⟨[(3,b_2),(2,b_0),(1,b_1),(0,.cells 11 [w_0])],7⟩
 refine run_z 6 5 (r1.map E_GTake) [2] [v_5] (xs:=[.sl false (r1.map E_GTake)]) (S2:=s_2) ?_ (by kernel_rfl) (by kernel_rfl) (.k (.m (mLe r1 E_GTake) (mapAll r1 E_GTake)) .z) (.k (x':=b_2) rfl (by kernel_rfl) (.r _) (.k (x':=b_0) rfl (by kernel_rfl) (.r _) (.k (x':=b_1) rfl (by kernel_rfl) (.r _) (.k (x':=.cells 11 [w_0]) rfl (by kernel_rfl) (.r _) .z)))) rfl rfl
 refine run_t (by kernel_rfl) ?_
 replace h:=Option.some.inj h; subst h
 exact fin_p [3,2,1,0] s_2 (by kernel_rfl) (by kernel_rfl) rfl ⟨rfl,rfl⟩
end Go.Proofs.Ytpljabnngpnieaa
