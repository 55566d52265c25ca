/-
 Functions of the program as Lean functions,and the walks. Written by a program of ours.
-/
import Derived.Test.YtodkhgjhodmeoaaGreatV4a
namespace Go.Proofs.YtodkhgjhodmeoaaGreat
open Go Go.Am
set_option maxRecDepth 100000
set_option linter.all false
noncomputable def c130 (k:Nat):Code:=nthC (subs (Tryz.f130.body.getD .skip)) k
noncomputable def c81 (k:Nat):Code:=nthC (subs (Tryz.f81.body.getD .skip)) k
noncomputable def c131 (k:Nat):Code:=nthC (subs (Tryz.f131.body.getD .skip)) k
noncomputable def c132 (k:Nat):Code:=nthC (subs (Tryz.f132.body.getD .skip)) k
noncomputable def c133 (k:Nat):Code:=nthC (subs (Tryz.f133.body.getD .skip)) k
noncomputable def c134 (k:Nat):Code:=nthC (subs (Tryz.f134.body.getD .skip)) k
noncomputable def c82 (k:Nat):Code:=nthC (subs (Tryz.f82.body.getD .skip)) k
noncomputable def c32 (k:Nat):Code:=nthC (subs (Tryz.f32.body.getD .skip)) k
def f128:Option (List GSign):=some [⟨1,true,false⟩,⟨1,false,false⟩,⟨2,true,false⟩,⟨1,false,true⟩,⟨2,false,false⟩,⟨3,true,false⟩,⟨2,false,true⟩,⟨3,false,false⟩,⟨4,true,false⟩,⟨3,false,true⟩,⟨4,false,false⟩,⟨5,true,false⟩,⟨4,false,true⟩,⟨5,false,false⟩,⟨6,true,false⟩,⟨5,false,true⟩,⟨6,false,false⟩,⟨7,true,false⟩,⟨6,false,true⟩,⟨7,false,false⟩,⟨7,false,true⟩]
theorem f128_ok (r:List GSign) (h:f128 = some r):APure Tryz.prog 128 [] (.sl false (r.map E_GSign)):=by cases h; exact mB_0.2
def f130r:Nat → Int → Int → (List GSign) → (List Int) → (List GSign) → Option (Bool × List GSign)
 | 0,_,_,_,_,_=>none
 | fu + 1,a0,a1,a2,a3,a4=>bif (decide (a0 = 0)) then (some (true,a4)) else ((loopN (σ:=(List GSign × Int)) (τ:=((List GSign) ⊕ (Bool × List GSign))) (fun ((l1_h3,l1_16):(List GSign × Int))=>bif (decide (l1_16 < (a2.length:Int))) then ((((ix a2 l1_16).bind fun y3=>(f129 y3).bind fun r4=>((bif (decide (a1 < r4)) then (some true) else (bif (decide (a0 < r4)) then (some true) else ((ix a3 (wr (a0 - r4))).bind fun y7=>(ix a3 a0).bind fun y8=>some (decide (y7 ≠ (wr (y8 - 1))))))):Option Bool).bind fun (j3_43:Bool)=>bif j3_43 then (some (.inl l1_h3)) else (need (l1_h3.length + 1 ≤ maxElems) <| (f130r fu (wr (a0 - r4)) r4 a2 a3 (l1_h3 ++ [y3])).bind fun r11=>bif r11.1 then (some (.inr (.inr (.inr (true,r11.2))))) else (need (0 ≤ (wr ((r11.2.length:Int) - 1))) <| need ((wr ((r11.2.length:Int) - 1)).toNat ≤ r11.2.length) <| some (.inl (r11.2.take (wr ((r11.2.length:Int) - 1)).toNat))))):Option ((List GSign) ⊕ ((List GSign × Int) ⊕ ((List GSign) ⊕ (Bool × List GSign))))).bind (Sum.elim (fun (j2_h3:(List GSign))=>some (.inl (j2_h3,(wr (l1_16 + 1))))) some)) else (some (.inr (.inl l1_h3)))) FUEL (a4,0)).bind (Sum.elim (fun (l1x_h3:(List GSign))=>some (false,l1x_h3)) some))
def f130 (a0:Int) (a1:Int) (a2:List GSign) (a3:List Int) (a4:List GSign):Option (Bool × List GSign):=f130r FUEL a0 a1 a2 a3 a4
theorem f130r_ok:∀ (fu:Nat) (a0:Int) (a1:Int) (a2:List GSign) (a3:List Int) (a4:List GSign) (r:(Bool × List GSign)) (h:f130r fu a0 a1 a2 a3 a4 = some r),ACalls Tryz.prog 130 [.i a0,.i a1,.mp 0 0 0,.mp 1 0 0,.mp 3 0 0,.mp 5 0 0] ⟨[(5,.cells 1 [.fn 130 [.mp 0 0 0,.mp 1 0 0,.mp 3 0 0,.mp 5 0 0]]),(4,.cells 3 (a4.map E_GSign)),(3,.cells 1 [.ms 4 0 a4.length]),(2,.cells 1 (a3.map AV.i)),(1,.cells 1 [.ms 2 0 a3.length]),(0,.cells 1 [.sl false (a2.map E_GSign)])],6⟩ (fun y t=>y = .bool r.1 ∧ t = ⟨[(6,.cells 3 (r.2.map E_GSign)),(5,.cells 1 [.fn 130 [.mp 0 0 0,.mp 1 0 0,.mp 3 0 0,.mp 5 0 0]]),(3,.cells 1 [.ms 6 0 r.2.length]),(2,.cells 1 (a3.map AV.i)),(1,.cells 1 [.ms 2 0 a3.length]),(0,.cells 1 [.sl false (a2.map E_GSign)])],7⟩):=by
 intro fu
 induction fu with
 | zero=>intro a0 a1 a2 a3 a4 r h; rw [f130r] at h; cases h
 | succ fu ih =>
 intro a0 a1 a2 a3 a4 r h
 refine wfS 60 [.tmp 8] (c130 0) ?_
 rw [f130r] at h
 rcases iteE h with ⟨hc1,h⟩ | ⟨hc1,h⟩
 ·replace h:=Option.some.inj h; subst h
  exact wS 7 [.t] (cj1 hc1) [8] [.bool true] ⟨[(5,.cells 1 [.fn 130 [.mp 0 0 0,.mp 1 0 0,.mp 3 0 0,.mp 5 0 0]]),(4,.cells 3 (a4.map E_GSign)),(3,.cells 1 [.ms 4 0 a4.length]),(2,.cells 1 (a3.map AV.i)),(1,.cells 1 [.ms 2 0 a3.length]),(0,.cells 1 [.sl false (a2.map E_GSign)])],6⟩ (E2:=zipE [8] [.bool true]) (S2:=⟨[(6,.cells 3 (a4.map E_GSign)),(5,.cells 1 [.fn 130 [.mp 0 0 0,.mp 1 0 0,.mp 3 0 0,.mp 5 0 0]]),(3,.cells 1 [.ms 6 0 a4.length]),(2,.cells 1 (a3.map AV.i)),(1,.cells 1 [.ms 2 0 a3.length]),(0,.cells 1 [.sl false (a2.map E_GSign)])],7⟩) (see_into r0 (mkInto (base:=6) (L:=[(6,4)]) (by kernel_rfl) (by kernel_rfl) (.k (.c rfl) .z) (.k rfl (.cells (.r (cleanMap _ _ cl_GSign))) (.k rfl (.cells (.k (.f (.k (.mp rfl rfl) (.k (.mp rfl rfl) (.k (.mp rfl rfl) (.k (.mp rfl rfl) .z))))) .z)) (.k rfl (.cells (.k (.ms rfl rfl) .z)) (.k rfl (.cells (.r (cleanMap _ _ cl_i))) (.k rfl (.cells (.k (.ms rfl rfl) .z)) (.k (x':=.cells 1 [.sl false (a2.map E_GSign)]) (by kernel_rfl) (.cells (.k (.c (cleanMap _ _ cl_GSign)) .z)) .z)))))))) ⟨rfl,rfl⟩
 ·obtain ⟨ol1x,hll1x,h⟩:=bindE h
  refine W 8 [.f,.r [{},{ k:=1,n:=a2.length }]] (cjC hc1 (cj1 (mapLen a2 E_GSign))) ?_
  let v_0:AV:=.sl false (a2.map E_GSign)
  let v_1:AV:=.ms 2 0 a3.length
  let w_0:AV:=.fn 130 [.mp 0 0 0,.mp 1 0 0,.mp 3 0 0,.mp 5 0 0]
  let b_0:Blk:=.cells 1 (a3.map AV.i)
  refine wJ (fun (l1x_h3:(List GSign))=>(zipE [] [])) (fun (l1x_h3:(List GSign))=>⟨[(6,.cells 3 (l1x_h3.map E_GSign)),(5,.cells 1 [w_0]),(3,.cells 1 [.ms 6 0 l1x_h3.length]),(2,b_0),(1,.cells 1 [v_1]),(0,.cells 1 [v_0])],7⟩) (fun j=>ol1x = .inl j) (fun kl1=>?_) ?_
  ·let v_2:AV:=.i (a2.length:Int)
   refine wLi 1 [] cj0 hll1x 6 (fun ((l1_h3,l1_16):(List GSign × Int))=>(zipE [0,1,3,4,5,14,15,16] [.i a0,.i a1,.mp 1 0 0,.mp 3 0 0,.mp 5 0 0,v_0,v_2,.i l1_16])) (fun ((l1_h3,l1_16):(List GSign × Int))=>⟨[(6,.cells 3 (l1_h3.map E_GSign)),(5,.cells 1 [w_0]),(3,.cells 1 [.ms 6 0 l1_h3.length]),(2,b_0),(1,.cells 1 [v_1]),(0,.cells 1 [v_0])],7⟩) [0,1,3,4,5,14,15,16] [.i a0,.i a1,.mp 1 0 0,.mp 3 0 0,.mp 5 0 0,v_0,v_2,.i 0] ⟨[(5,.cells 1 [w_0]),(4,.cells 3 (a4.map E_GSign)),(3,.cells 1 [.ms 4 0 a4.length]),(2,b_0),(1,.cells 1 [v_1]),(0,.cells 1 [v_0])],6⟩ (see_into r0 (mkInto (L:=[(6,4)]) (base:=6) (ks:=[0,1,3,4,5,14,15,16]) (ys:=[.i a0,.i a1,.mp 1 0 0,.mp 3 0 0,.mp 5 0 0,v_0,v_2,.i 0]) (by kernel_rfl) (by kernel_rfl) (.k (.c rfl) (.k (.c rfl) (.k (.mp rfl rfl) (.k (.mp rfl rfl) (.k (.mp rfl rfl) (.k (.c (cleanMap _ _ cl_GSign)) (.k (.c rfl) (.k (.c rfl) .z)))))))) (.k rfl (.cells (.r (cleanMap _ _ cl_GSign))) (.k rfl (.cells (.k (.f (.k (.mp rfl rfl) (.k (.mp rfl rfl) (.k (.mp rfl rfl) (.k (.mp rfl rfl) .z))))) .z)) (.k rfl (.cells (.k (.ms rfl rfl) .z)) (.k rfl (.cells (.r (cleanMap _ _ cl_i))) (.k rfl (.cells (.k (.ms rfl rfl) .z)) (.k (x':=.cells 1 [v_0]) (by kernel_rfl) (.cells (.k (.c (cleanMap _ _ cl_GSign)) .z)) .z)))))))) ?_
   rintro ⟨l1_h3,l1_16⟩ out hl1 rl1 Kl1
   rcases iteE hl1 with ⟨hc2,hl1⟩ | ⟨hc2,hl1⟩
   ·obtain ⟨oj2,hj2,hl1⟩:=bindE hl1
    refine W 5 [.t] (cj1 hc2) ?_
    refine wG (fun (j2_h3:(List GSign))=>(zipE [0,1,3,4,5,14,15,16] [.i a0,.i a1,.mp 1 0 0,.mp 3 0 0,.mp 5 0 0,v_0,v_2,.i l1_16])) (fun (j2_h3:(List GSign))=>⟨[(10,.cells 3 (j2_h3.map E_GSign)),(5,.cells 1 [w_0]),(3,.cells 1 [.ms 10 0 j2_h3.length]),(2,b_0),(1,.cells 1 [v_1]),(0,.cells 1 [v_0])],11⟩) (fun j=>oj2 = .inl j) (fun kj2=>?_) ?_
    ·obtain ⟨y3,hy3,hj2⟩:=bindE hj2
     obtain ⟨r4,hr4,hj2⟩:=bindE hj2
     obtain ⟨j3_43,hj3,hj2⟩:=bindE hj2
     refine W 5 [.r [{ k:=1,x:=E_GSign y3 }],.r [{},{ k:=7,x:=.i r4 }]] (cjC ((ixE hy3).1) (cjC (mapGet E_GSign (ixE hy3).2) (cj1 (f129_ok y3 _ hr4)))) ?_
     let b_1:Blk:=.cells 3 (l1_h3.map E_GSign)
     let s_0:St:=⟨[(7,.cells 3 [E_GSign y3]),(6,b_1),(5,.cells 1 [w_0]),(3,.cells 1 [.ms 6 0 l1_h3.length]),(2,b_0),(1,.cells 1 [v_1]),(0,.cells 1 [v_0])],8⟩
     refine wG (fun (j3_43:Bool)=>(zipE [0,1,3,4,5,10,11,14,15,16,43] [.i a0,.i a1,.mp 1 0 0,.mp 3 0 0,.mp 5 0 0,.mp 7 0 0,.i r4,v_0,v_2,.i l1_16,.bool j3_43])) (fun (j3_43:Bool)=>s_0) (fun j=>j3_43 = j) (fun kj3=>?_) ?_
     ·rcases iteE hj3 with ⟨hc5,hj3⟩ | ⟨hc5,hj3⟩
      ·replace hj3:=Option.some.inj hj3; subst hj3
       exact wX 1 [.r [{},{},{},{},{ g:=false },{ g:=false },{ g:=false },{},{},{ g:=false },{ g:=false },{ g:=false },{ g:=false },{ g:=false },{ g:=false },{ g:=false },{ g:=false },{ g:=false },{ g:=false },{ g:=false },{ g:=false }]] (cjC hc5 (cjC (Eq.refl true) (cjC (Eq.refl true) (cjC (Eq.refl true) (cjC (Eq.refl true) (cjC (Eq.refl true) (cjC (Eq.refl true) (cjC (Eq.refl true) (cjC (Eq.refl true) (cjC (Eq.refl true) (cjC (Eq.refl true) (cjC (Eq.refl true) (cjC (Eq.refl true) (cjC (Eq.refl true) (cj1 (Eq.refl true)))))))))))))))) (kj3 true rfl)
      ·rcases iteE hj3 with ⟨hc6,hj3⟩ | ⟨hc6,hj3⟩
       ·replace hj3:=Option.some.inj hj3; subst hj3
        exact wX 1 [.r [{},{},{},{},{},{},{},{},{},{ g:=false },{ g:=false },{ g:=false },{ g:=false },{ g:=false },{ g:=false },{ g:=false },{ g:=false },{ g:=false },{ g:=false },{ g:=false },{ g:=false }]] (cjC hc5 (cjC (Eq.refl false) (cjC (Eq.refl false) (cjC hc6 (cjC (Eq.refl true) (cjC (Eq.refl true) (cjC (Eq.refl true) (cjC (Eq.refl true) (cjC (Eq.refl true) (cjC (Eq.refl true) (cjC (Eq.refl true) (cjC (Eq.refl true) (cjC (Eq.refl true) (cjC (Eq.refl true) (cj1 (Eq.refl true)))))))))))))))) (kj3 true rfl)
       ·obtain ⟨y7,hy7,hj3⟩:=bindE hj3
        obtain ⟨y8,hy8,hj3⟩:=bindE hj3
        replace hj3:=Option.some.inj hj3; subst hj3
        exact wX 1 [.r [{},{},{},{},{},{},{},{},{},{},{},{},{},{ k:=1,n:=(wr (a0 - r4)).toNat },{ k:=1,x:=AV.i y7 },{},{},{ k:=1,n:=a0.toNat },{ k:=1,x:=AV.i y8 }]] (cjC hc5 (cjC (Eq.refl false) (cjC (Eq.refl false) (cjC hc6 (cjC (Eq.refl false) (cjC (Eq.refl false) (cjC (Eq.refl false) (cjC (Eq.refl false) (cjC ((ixE hy7).1) (cjC (ixLt hy7) (cjC (Nat.zero_add (wr (a0 - r4)).toNat) (cjC (Eq.refl false) (cjC (mapGet AV.i (ixE hy7).2) (cjC (Eq.refl false) (cjC (Eq.refl false) (cjC (Eq.refl false) (cjC ((ixE hy8).1) (cjC (ixLt hy8) (cjC (Nat.zero_add a0.toNat) (cjC (Eq.refl false) (cjC (mapGet AV.i (ixE hy8).2) (cjC (Eq.refl false) (cj1 (Eq.refl false)))))))))))))))))))))))) (kj3 (decide (y7 ≠ (wr (y8 - 1)))) rfl)
     ·rintro _ rfl
      rcases iteE hj2 with ⟨hc9,hj2⟩ | ⟨hc9,hj2⟩
      ·replace hj2:=Option.some.inj hj2; subst hj2
       refine wT 1 [.t] (cj1 hc9) [0,1,3,4,5,14,15,16] [.i a0,.i a1,.mp 1 0 0,.mp 3 0 0,.mp 5 0 0,v_0,v_2,.i l1_16] s_0 (wI 10 [(10,6)] [0,1,3,4,5,14,15,16] [.i a0,.i a1,.mp 1 0 0,.mp 3 0 0,.mp 5 0 0,v_0,v_2,.i l1_16] (xs:=[.i a0,.i a1,.mp 1 0 0,.mp 3 0 0,.mp 5 0 0,v_0,v_2,.i l1_16]) (S2:=⟨[(10,b_1),(5,.cells 1 [w_0]),(3,.cells 1 [.ms 10 0 l1_h3.length]),(2,b_0),(1,.cells 1 [v_1]),(0,.cells 1 [v_0])],11⟩) ?_ r0 (.k (.c rfl) (.k (.c rfl) (.k (.mp rfl rfl) (.k (.mp rfl rfl) (.k (.mp rfl rfl) (.k (.c (cleanMap _ _ cl_GSign)) (.k (.c rfl) (.k (.c rfl) .z)))))))) (.k rfl (.cells (.r (cleanMap _ _ cl_GSign))) (.k rfl (.cells (.k (.f (.k (.mp rfl rfl) (.k (.mp rfl rfl) (.k (.mp rfl rfl) (.k (.mp rfl rfl) .z))))) .z)) (.k rfl (.cells (.k (.ms rfl rfl) .z)) (.k rfl (.cells (.r (cleanMap _ _ cl_i))) (.k rfl (.cells (.k (.ms rfl rfl) .z)) (.k (x':=.cells 1 [v_0]) (by kernel_rfl) (.cells (.k (.c (cleanMap _ _ cl_GSign)) .z)) .z)))))))
       exact wX 4 [] cj0 (kj2 l1_h3 rfl)
      ·obtain ⟨hn10,hj2⟩:=needE hj2
       obtain ⟨r11,hr11,hj2⟩:=bindE hj2
       let b_2:Blk:=.cells 1 [.ms 8 0 (l1_h3 ++ [y3]).length]
       let b_3:Blk:=.cells 3 ((l1_h3 ++ [y3]).map E_GSign)
       let s_1:St:=⟨[(8,b_3),(5,.cells 1 [w_0]),(3,b_2),(2,b_0),(1,.cells 1 [v_1]),(0,.cells 1 [v_0])],9⟩
       refine wT 5 [.f,.r [{},{},{},{ k:=1,n:=(l1_h3 ++ [y3]).length,l:=(l1_h3 ++ [y3]).map E_GSign }]] (cjC hc9 (cjC (@List.cons_ne_nil AV (E_GSign y3) []) (cjC (mLe l1_h3 E_GSign) (cjC hn10 (cjC (lenA l1_h3 ([y3]:List GSign)) (cjC (appA l1_h3 ([y3]:List GSign) E_GSign) (cj1 (fitsOne (P:=Tryz.prog) (t:=140) (x:=E_GSign y3) (r:=[]) (by kernel_rfl))))))))) [0,1,3,4,5,11,14,15,16] [.i a0,.i a1,.mp 1 0 0,.mp 3 0 0,.mp 5 0 0,.i r4,v_0,v_2,.i l1_16] s_1 ?_
       let b_4:Blk:=.cells 3 (r11.2.map E_GSign)
       let s_2:St:=⟨[(9,b_4),(5,.cells 1 [w_0]),(3,.cells 1 [.ms 9 0 r11.2.length]),(2,b_0),(1,.cells 1 [v_1]),(0,.cells 1 [v_0])],10⟩
       refine W 1 [.r [{},{},{},{},{},{ c:=some (.bool r11.1,s_2) }]] (cj1 (callF (ih (wr (a0 - r4)) r4 a2 a3 (l1_h3 ++ [y3]) _ hr11) [(0,0),(1,1),(2,2),(3,3),(4,8),(5,5)] [(9,6),(5,5),(3,3),(2,2),(1,1),(0,0)] [] [.i (wr (a0 - r4)),.i r4,.mp 0 0 0,.mp 1 0 0,.mp 3 0 0,.mp 5 0 0] s_1 (.bool r11.1) s_2 (by kernel_rfl) (.k (.c rfl) (.k (.c rfl) (.k (.mp rfl rfl) (.k (.mp rfl rfl) (.k (.mp rfl rfl) (.k (.mp rfl rfl) .z)))))) (.c rfl) (.k rfl (.cells (.k (.f (.k (.mp rfl rfl) (.k (.mp rfl rfl) (.k (.mp rfl rfl) (.k (.mp rfl rfl) .z))))) .z)) (.k rfl (.cells (.r (cleanMap _ _ cl_GSign))) (.k rfl (.cells (.k (.ms rfl rfl) .z)) (.k rfl (.cells (.r (cleanMap _ _ cl_i))) (.k rfl (.cells (.k (.ms rfl rfl) .z)) (.k (x':=.cells 1 [v_0]) (by kernel_rfl) (.cells (.k (.c (cleanMap _ _ cl_GSign)) .z)) .z)))))) (.d (x':=b_4) rfl (by kernel_rfl) (.cells (.r (cleanMap _ _ cl_GSign))) (.d (x':=.cells 1 [w_0]) rfl (by kernel_rfl) (.cells (.k (.f (.k (.mp rfl rfl) (.k (.mp rfl rfl) (.k (.mp rfl rfl) (.k (.mp rfl rfl) .z))))) .z)) (.d (x':=.cells 1 [.ms 6 0 r11.2.length]) rfl (by kernel_rfl) (.cells (.k (.ms rfl rfl) .z)) (.d (x':=b_0) rfl (by kernel_rfl) (.cells (.r (cleanMap _ _ cl_i))) (.d (x':=.cells 1 [v_1]) rfl (by kernel_rfl) (.cells (.k (.ms rfl rfl) .z)) (.d (x':=.cells 1 [v_0]) rfl (by kernel_rfl) (.cells (.k (.c (cleanMap _ _ cl_GSign)) .z)) .z)))))))) ?_
       rcases iteE hj2 with ⟨hc12,hj2⟩ | ⟨hc12,hj2⟩
       ·replace hj2:=Option.some.inj hj2; subst hj2
        replace hl1:=elimR hl1
        replace hl1:=Option.some.inj hl1; subst hl1
        have hr:=rl1 _ rfl
        subst hr
        replace h:=elimR h
        replace h:=Option.some.inj h; subst h
        exact wS 9 [.t] (cjC hc12 (cj1 (Kl1.o _ rfl))) [8] [.bool true] ⟨[(9,.cells 3 (r11.2.map E_GSign)),(5,.cells 1 [.fn 130 [.mp 0 0 0,.mp 1 0 0,.mp 3 0 0,.mp 5 0 0]]),(3,.cells 1 [.ms 9 0 r11.2.length]),(2,.cells 1 (a3.map AV.i)),(1,.cells 1 [.ms 2 0 a3.length]),(0,.cells 1 [.sl false (a2.map E_GSign)])],10⟩ (E2:=zipE [8] [.bool true]) (S2:=⟨[(6,.cells 3 (r11.2.map E_GSign)),(5,.cells 1 [.fn 130 [.mp 0 0 0,.mp 1 0 0,.mp 3 0 0,.mp 5 0 0]]),(3,.cells 1 [.ms 6 0 r11.2.length]),(2,.cells 1 (a3.map AV.i)),(1,.cells 1 [.ms 2 0 a3.length]),(0,.cells 1 [.sl false (a2.map E_GSign)])],7⟩) (see_into r0 (mkInto (base:=6) (L:=[(6,9)]) (by kernel_rfl) (by kernel_rfl) (.k (.c rfl) .z) (.k rfl (.cells (.r (cleanMap _ _ cl_GSign))) (.k rfl (.cells (.k (.f (.k (.mp rfl rfl) (.k (.mp rfl rfl) (.k (.mp rfl rfl) (.k (.mp rfl rfl) .z))))) .z)) (.k rfl (.cells (.k (.ms rfl rfl) .z)) (.k rfl (.cells (.r (cleanMap _ _ cl_i))) (.k rfl (.cells (.k (.ms rfl rfl) .z)) (.k (x':=.cells 1 [.sl false (a2.map E_GSign)]) (by kernel_rfl) (.cells (.k (.c (cleanMap _ _ cl_GSign)) .z)) .z)))))))) ⟨rfl,rfl⟩
       ·obtain ⟨hn13,hj2⟩:=needE hj2
        obtain ⟨hn14,hj2⟩:=needE hj2
        let b_5:Blk:=.cells 1 [.ms 9 0 (r11.2.take (wr ((r11.2.length:Int) - 1)).toNat).length]
        let b_6:Blk:=.cells 3 ((r11.2.take (wr ((r11.2.length:Int) - 1)).toNat).map E_GSign)
        let s_3:St:=⟨[(9,b_6),(5,.cells 1 [w_0]),(3,b_5),(2,b_0),(1,.cells 1 [v_1]),(0,.cells 1 [v_0])],10⟩
        refine wT 4 [.f,.r [{},{},{},{},{ k:=1,n:=0,m:=(wr ((r11.2.length:Int) - 1)).toNat,q:=0,p:=(wr ((r11.2.length:Int) - 1)).toNat }]] (cjC hc12 (cjC (Nat.zero_le (wr ((r11.2.length:Int) - 1)).toNat) (cjC hn14 (cjC (Nat.zero_add 0) (cjC (Nat.sub_zero (wr ((r11.2.length:Int) - 1)).toNat) (cjC (Eq.refl (0:Nat)) (cjC hn13 (cj1 (Eq.refl ((wr ((r11.2.length:Int) - 1)).toNat)))))))))) [0,1,3,4,5,14,15,16] [.i a0,.i a1,.mp 1 0 0,.mp 3 0 0,.mp 5 0 0,v_0,v_2,.i l1_16] ⟨[(9,b_4),(5,.cells 1 [w_0]),(3,.cells 1 [.ms 9 0 (wr ((r11.2.length:Int) - 1)).toNat]),(2,b_0),(1,.cells 1 [v_1]),(0,.cells 1 [v_0])],10⟩ (wI 10 [] [0,1,3,4,5,14,15,16] [.i a0,.i a1,.mp 1 0 0,.mp 3 0 0,.mp 5 0 0,v_0,v_2,.i l1_16] (xs:=[.i a0,.i a1,.mp 1 0 0,.mp 3 0 0,.mp 5 0 0,v_0,v_2,.i l1_16]) (S2:=s_3) ?_ r0 (.k (.c rfl) (.k (.c rfl) (.k (.mp rfl rfl) (.k (.mp rfl rfl) (.k (.mp rfl rfl) (.k (.c (cleanMap _ _ cl_GSign)) (.k (.c rfl) (.k (.c rfl) .z)))))))) (.k rfl (cutT 3 r11.2 (wr ((r11.2.length:Int) - 1)).toNat cl_GSign) (.k rfl (.cells (.k (.f (.k (.mp rfl rfl) (.k (.mp rfl rfl) (.k (.mp rfl rfl) (.k (.mp rfl rfl) .z))))) .z)) (.k rfl (.cells (.k (.e rfl rfl (by simp; omega)) .z)) (.k rfl (.cells (.r (cleanMap _ _ cl_i))) (.k rfl (.cells (.k (.ms rfl rfl) .z)) (.k (x':=.cells 1 [v_0]) (by kernel_rfl) (.cells (.k (.c (cleanMap _ _ cl_GSign)) .z)) .z)))))))
        replace hj2:=Option.some.inj hj2; subst hj2
        exact wXi 2 [] cj0 [0,1,3,4,5,14,15,16] [.i a0,.i a1,.mp 1 0 0,.mp 3 0 0,.mp 5 0 0,v_0,v_2,.i l1_16] s_3 10 [(10,9)] (kj2 (r11.2.take (wr ((r11.2.length:Int) - 1)).toNat) rfl) r0 (.k (.c rfl) (.k (.c rfl) (.k (.mp rfl rfl) (.k (.mp rfl rfl) (.k (.mp rfl rfl) (.k (.c (cleanMap _ _ cl_GSign)) (.k (.c rfl) (.k (.c rfl) .z)))))))) (.k (x':=b_6) (by kernel_rfl) (.cells (.r (cleanMap _ _ cl_GSign))) (.k rfl (.cells (.k (.f (.k (.mp rfl rfl) (.k (.mp rfl rfl) (.k (.mp rfl rfl) (.k (.mp rfl rfl) .z))))) .z)) (.k (x':=b_5) (by kernel_rfl) (.cells (.k (.ms rfl rfl) .z)) (.k rfl (.cells (.r (cleanMap _ _ cl_i))) (.k rfl (.cells (.k (.ms rfl rfl) .z)) (.k (x':=.cells 1 [v_0]) (by kernel_rfl) (.cells (.k (.c (cleanMap _ _ cl_GSign)) .z)) .z))))))
    ·rintro j2_h3 rfl
     replace hl1:=elimL hl1
     replace hl1:=Option.some.inj hl1; subst hl1
     exact wN 1 [] cj0 [0,1,3,4,5,14,15,16] [.i a0,.i a1,.mp 1 0 0,.mp 3 0 0,.mp 5 0 0,v_0,v_2,.i (wr (l1_16 + 1))] ⟨[(10,.cells 3 (j2_h3.map E_GSign)),(5,.cells 1 [w_0]),(3,.cells 1 [.ms 10 0 j2_h3.length]),(2,b_0),(1,.cells 1 [v_1]),(0,.cells 1 [v_0])],11⟩ Kl1 rfl (see_into r0 (mkInto (L:=[(6,10)]) (ks:=[0,1,3,4,5,14,15,16]) (ys:=[.i a0,.i a1,.mp 1 0 0,.mp 3 0 0,.mp 5 0 0,v_0,v_2,.i (wr (l1_16 + 1))]) (by kernel_rfl) (by kernel_rfl) (.k (.c rfl) (.k (.c rfl) (.k (.mp rfl rfl) (.k (.mp rfl rfl) (.k (.mp rfl rfl) (.k (.c (cleanMap _ _ cl_GSign)) (.k (.c rfl) (.k (.c rfl) .z)))))))) (.k rfl (.cells (.r (cleanMap _ _ cl_GSign))) (.k rfl (.cells (.k (.f (.k (.mp rfl rfl) (.k (.mp rfl rfl) (.k (.mp rfl rfl) (.k (.mp rfl rfl) .z))))) .z)) (.k rfl (.cells (.k (.ms rfl rfl) .z)) (.k rfl (.cells (.r (cleanMap _ _ cl_i))) (.k rfl (.cells (.k (.ms rfl rfl) .z)) (.k (x':=.cells 1 [v_0]) (by kernel_rfl) (.cells (.k (.c (cleanMap _ _ cl_GSign)) .z)) .z))))))))
   ·replace hl1:=Option.some.inj hl1; subst hl1
    have hr:=rl1 _ rfl
    subst hr
    exact wX 7 [.f] (cjC hc2 (cj1 (Kl1.o _ rfl))) (kl1 l1_h3 rfl)
  ·rintro l1x_h3 rfl
   replace h:=elimL h
   replace h:=Option.some.inj h; subst h
   exact wS 3 [] cj0 [8] [.bool false] ⟨[(6,.cells 3 (l1x_h3.map E_GSign)),(5,.cells 1 [.fn 130 [.mp 0 0 0,.mp 1 0 0,.mp 3 0 0,.mp 5 0 0]]),(3,.cells 1 [.ms 6 0 l1x_h3.length]),(2,.cells 1 (a3.map AV.i)),(1,.cells 1 [.ms 2 0 a3.length]),(0,.cells 1 [.sl false (a2.map E_GSign)])],7⟩ (E2:=zipE [8] [.bool false]) (S2:=⟨[(6,.cells 3 (l1x_h3.map E_GSign)),(5,.cells 1 [.fn 130 [.mp 0 0 0,.mp 1 0 0,.mp 3 0 0,.mp 5 0 0]]),(3,.cells 1 [.ms 6 0 l1x_h3.length]),(2,.cells 1 (a3.map AV.i)),(1,.cells 1 [.ms 2 0 a3.length]),(0,.cells 1 [.sl false (a2.map E_GSign)])],7⟩) (see_into r0 (mkInto (base:=6) (L:=[]) (by kernel_rfl) (by kernel_rfl) (.k (.c rfl) .z) (.k rfl (.cells (.r (cleanMap _ _ cl_GSign))) (.k rfl (.cells (.k (.f (.k (.mp rfl rfl) (.k (.mp rfl rfl) (.k (.mp rfl rfl) (.k (.mp rfl rfl) .z))))) .z)) (.k rfl (.cells (.k (.ms rfl rfl) .z)) (.k rfl (.cells (.r (cleanMap _ _ cl_i))) (.k rfl (.cells (.k (.ms rfl rfl) .z)) (.k (x':=.cells 1 [.sl false (a2.map E_GSign)]) (by kernel_rfl) (.cells (.k (.c (cleanMap _ _ cl_GSign)) .z)) .z)))))))) ⟨rfl,rfl⟩
theorem f130_ok (a0:Int) (a1:Int) (a2:List GSign) (a3:List Int) (a4:List GSign) (r:(Bool × List GSign)) (h:f130 a0 a1 a2 a3 a4 = some r):ACalls Tryz.prog 130 [.i a0,.i a1,.mp 0 0 0,.mp 1 0 0,.mp 3 0 0,.mp 5 0 0] ⟨[(5,.cells 1 [.fn 130 [.mp 0 0 0,.mp 1 0 0,.mp 3 0 0,.mp 5 0 0]]),(4,.cells 3 (a4.map E_GSign)),(3,.cells 1 [.ms 4 0 a4.length]),(2,.cells 1 (a3.map AV.i)),(1,.cells 1 [.ms 2 0 a3.length]),(0,.cells 1 [.sl false (a2.map E_GSign)])],6⟩ (fun y t=>y = .bool r.1 ∧ t = ⟨[(6,.cells 3 (r.2.map E_GSign)),(5,.cells 1 [.fn 130 [.mp 0 0 0,.mp 1 0 0,.mp 3 0 0,.mp 5 0 0]]),(3,.cells 1 [.ms 6 0 r.2.length]),(2,.cells 1 (a3.map AV.i)),(1,.cells 1 [.ms 2 0 a3.length]),(0,.cells 1 [.sl false (a2.map E_GSign)])],7⟩):=f130r_ok FUEL a0 a1 a2 a3 a4 r h
def f81 (a0:Int):Option (((List GSign)) × Int):=((bif (decide (a0 < 0)) then (some true) else (some (decide (4608 < a0)))):Option Bool).bind fun (j1_17:Bool)=>bif j1_17 then (some (([]:List GSign),1)) else ((f128).bind fun r3=>need (0 ≤ (wr (a0 + 1))) <| need ((wr (a0 + 1)) ≤ (maxElems:Int)) <| (loopN (σ:=(List Int × Int)) (τ:=(List Int)) (fun ((l2_h2,l2_6):(List Int × Int))=>bif (decide (l2_6 ≤ a0)) then ((ix l2_h2 l2_6).bind fun y7=>(loopN (σ:=(List Int × Int)) (τ:=(List Int)) (fun ((l3_h2,l3_32):(List Int × Int))=>bif (decide (l3_32 < (r3.length:Int))) then ((((ix r3 l3_32).bind fun y9=>(f129 y9).bind fun r10=>((bif (decide (0 ≤ (wr (l2_6 - r10)))) then ((ix l3_h2 (wr (l2_6 - r10))).bind fun y12=>bif (decide (0 ≤ y12)) then ((ix l3_h2 l2_6).bind fun y14=>bif (decide (y14 < 0)) then (some true) else (some (decide ((wr (y12 + 1)) < y14)))) else (some false)) else (some false)):Option Bool).bind fun (j5_67:Bool)=>bif j5_67 then ((ix l3_h2 (wr (l2_6 - r10))).bind fun y17=>(ix l3_h2 l2_6).bind fun y18=>some (l3_h2.set l2_6.toNat (wr (y17 + 1)))) else (some l3_h2)):Option (List Int)).bind fun (j4_h2:(List Int))=>some (.inl (j4_h2,(wr (l3_32 + 1))))) else (some (.inr l3_h2))) FUEL ((l2_h2.set l2_6.toNat (-1)),0)).bind fun (l3x_h2:(List Int))=>some (.inl (l3x_h2,(wr (l2_6 + 1))))) else (some (.inr l2_h2))) FUEL ((List.replicate (wr (a0 + 1)).toNat (0:Int)),1)).bind fun (l2x_h2:(List Int))=>(ix l2x_h2 a0).bind fun y19=>bif (decide (y19 < 0)) then (some (([]:List GSign),25)) else ((f130 a0 768 r3 l2x_h2 ([]:List GSign)).bind fun r21=>some (r21.2,0)))
theorem f81_ok (a0:Int) (r:(((List GSign)) × Int)) (h:f81 a0 = some r):APure Tryz.prog 81 [.i a0] (.tup [.sl false (r.1.map E_GSign),.i r.2]):=by
 refine apure (clK rfl clZ) (clK (cleanMap r.1 _ cl_GSign) (clK rfl clZ)) ?_
 refine wf 87 [.tmp 2,.tmp 3] (c81 0) ?_
 unfold f81 at h
 obtain ⟨j1_17,hj1,h⟩:=bindE h
 refine W 2 [] cj0 ?_
 refine wG (fun (j1_17:Bool)=>(zipE [0,17] [.i a0,.bool j1_17])) (fun (j1_17:Bool)=>⟨[],0⟩) (fun j=>j1_17 = j) (fun kj1=>?_) ?_
 ·rcases iteE hj1 with ⟨hc1,hj1⟩ | ⟨hc1,hj1⟩
  ·replace hj1:=Option.some.inj hj1; subst hj1
   exact wX 1 [.r [{},{},{},{ g:=false },{ g:=false },{ k:=1,b:=true }]] (cjC hc1 (cjC hc1 (cj1 hc1))) (kj1 true rfl)
  ·replace hj1:=Option.some.inj hj1; subst hj1
   exact wX 1 [.r [{},{},{},{},{},{ k:=1,b:=false }]] (cjC hc1 (cjC hc1 (cj1 hc1))) (kj1 (decide (4608 < a0)) rfl)
 ·rintro _ rfl
  rcases iteE h with ⟨hc2,h⟩ | ⟨hc2,h⟩
  ·refine wT 2 [.t] (cj1 hc2) [2,3] [.sl true [],.i 1] ⟨[],0⟩ (wI 0 [] [2,3] [.sl true [],.i 1] (xs:=[.sl false (([]:List GSign).map E_GSign),.i 1]) (S2:=⟨[],0⟩) ?_ r0 (.k (.s (cleanMap (([]:List GSign)) _ cl_GSign)) (.k (.c rfl) .z)) .z)
   replace h:=Option.some.inj h; subst h
   exact wR 2 [] cj0
  ·obtain ⟨r3,hr3,h⟩:=bindE h
   obtain ⟨hn4,h⟩:=needE h
   obtain ⟨hn5,h⟩:=needE h
   let v_0:AV:=.sl false (r3.map E_GSign)
   let b_0:Blk:=.cells 1 ((List.replicate (wr (a0 + 1)).toNat (0:Int)).map AV.i)
   refine wT 5 [.f,.r [{ k:=7,x:=v_0 }],.r [{},{},{ k:=1,n:=(wr (a0 + 1)).toNat,l:=(List.replicate (wr (a0 + 1)).toNat (0:Int)).map AV.i }]] (cjC hc2 (cjC (f128_ok  _ hr3) (cjC hn4 (cjC (Int.le_refl (wr (a0 + 1))) (cjC hn5 (cjC (Eq.refl ((wr (a0 + 1)).toNat)) (cj1 (mapRep (wr (a0 + 1)).toNat AV.i (0:Int))))))))) [0,4,5] [.i a0,.mp 0 0 0,.mp 2 0 0] ⟨[(2,.cells 1 [.ms 1 0 (wr (a0 + 1)).toNat]),(1,b_0),(0,.cells 1 [v_0])],3⟩ (wI 3 [] [0,4,5] [.i a0,.mp 0 0 0,.mp 2 0 0] (xs:=[.i a0,.mp 0 0 0,.mp 2 0 0]) (S2:=⟨[(2,.cells 1 [.ms 1 0 (List.replicate (wr (a0 + 1)).toNat (0:Int)).length]),(1,b_0),(0,.cells 1 [v_0])],3⟩) ?_ r0 (.k (.c rfl) (.k (.mp rfl rfl) (.k (.mp rfl rfl) .z))) (.k rfl (.cells (.k (.e rfl rfl (by simp)) .z)) (.k (x':=b_0) (by kernel_rfl) (.cells (.r (cleanMap _ _ cl_i))) (.k (x':=.cells 1 [v_0]) (by kernel_rfl) (.cells (.k (.c (cleanMap _ _ cl_GSign)) .z)) .z))))
   obtain ⟨l2x_h2,hll2x,h⟩:=bindE h
   refine W 2 [] cj0 ?_
   refine wJ (fun (l2x_h2:(List Int))=>(zipE [0,4,5] [.i a0,.mp 0 0 0,.mp 2 0 0])) (fun (l2x_h2:(List Int))=>⟨[(2,.cells 1 [.ms 1 0 l2x_h2.length]),(1,.cells 1 (l2x_h2.map AV.i)),(0,.cells 1 [v_0])],3⟩) (fun j=>l2x_h2 = j) (fun kl2=>?_) ?_
   ·refine wL 1 [] cj0 hll2x 3 (fun ((l2_h2,l2_6):(List Int × Int))=>(zipE [0,4,5,6] [.i a0,.mp 0 0 0,.mp 2 0 0,.i l2_6])) (fun ((l2_h2,l2_6):(List Int × Int))=>⟨[(2,.cells 1 [.ms 1 0 l2_h2.length]),(1,.cells 1 (l2_h2.map AV.i)),(0,.cells 1 [v_0])],3⟩) ?_
    rintro ⟨l2_h2,l2_6⟩ out hl2 rl2 Kl2
    rcases iteE hl2 with ⟨hc6,hl2⟩ | ⟨hc6,hl2⟩
    ·obtain ⟨y7,hy7,hl2⟩:=bindE hl2
     let b_1:Blk:=.cells 1 ((l2_h2.set l2_6.toNat (-1)).map AV.i)
     refine wT 8 [.t,.r [{},{},{ k:=1,n:=l2_6.toNat },{ k:=1,x:=AV.i y7,l:=(l2_h2.set l2_6.toNat (-1)).map AV.i }]] (cjC hc6 (cjC ((ixE hy7).1) (cjC (ixLt hy7) (cjC (Nat.zero_add l2_6.toNat) (cjC (mapGet AV.i (ixE hy7).2) (cjC ((by decide:(1:Nat) ≤ 1)) (cj1 (mapSet l2_h2 AV.i l2_6.toNat (-1))))))))) [0,4,5,6] [.i a0,.mp 0 0 0,.mp 2 0 0,.i l2_6] ⟨[(2,.cells 1 [.ms 1 0 l2_h2.length]),(1,b_1),(0,.cells 1 [v_0])],3⟩ (wI 3 [] [0,4,5,6] [.i a0,.mp 0 0 0,.mp 2 0 0,.i l2_6] (xs:=[.i a0,.mp 0 0 0,.mp 2 0 0,.i l2_6]) (S2:=⟨[(2,.cells 1 [.ms 1 0 (l2_h2.set l2_6.toNat (-1)).length]),(1,b_1),(0,.cells 1 [v_0])],3⟩) ?_ r0 (.k (.c rfl) (.k (.mp rfl rfl) (.k (.mp rfl rfl) (.k (.c rfl) .z)))) (.k rfl (.cells (.k (.e rfl rfl (by simp)) .z)) (.k rfl (.cells (.r (cleanMap _ _ cl_i))) (.k (x':=.cells 1 [v_0]) (by kernel_rfl) (.cells (.k (.c (cleanMap _ _ cl_GSign)) .z)) .z))))
     obtain ⟨l3x_h2,hll3x,hl2⟩:=bindE hl2
     refine W 1 [.r [{},{ k:=1,n:=r3.length }]] (cj1 (mapLen r3 E_GSign)) ?_
     refine wJ (fun (l3x_h2:(List Int))=>(zipE [0,4,5,6] [.i a0,.mp 0 0 0,.mp 2 0 0,.i l2_6])) (fun (l3x_h2:(List Int))=>⟨[(2,.cells 1 [.ms 1 0 l3x_h2.length]),(1,.cells 1 (l3x_h2.map AV.i)),(0,.cells 1 [v_0])],3⟩) (fun j=>l3x_h2 = j) (fun kl3=>?_) ?_
     ·let v_1:AV:=.i (r3.length:Int)
      refine wLc 1 [] cj0 hll3x 3 (fun ((l3_h2,l3_32):(List Int × Int))=>(zipE [0,4,5,6,30,31,32] [.i a0,.mp 0 0 0,.mp 2 0 0,.i l2_6,v_0,v_1,.i l3_32])) (fun ((l3_h2,l3_32):(List Int × Int))=>⟨[(2,.cells 1 [.ms 1 0 l3_h2.length]),(1,.cells 1 (l3_h2.map AV.i)),(0,.cells 1 [v_0])],3⟩) r0 (fun ⟨l3_h2,l3_32⟩=>idok (.k (.c rfl) (.k (.mp rfl rfl) (.k (.mp rfl rfl) (.k (.c rfl) (.k (.c (cleanMap _ _ cl_GSign)) (.k (.c rfl) (.k (.c rfl) .z))))))) (.k rfl (.cells (.k (.ms rfl rfl) .z)) (.k rfl (.cells (.r (cleanMap _ _ cl_i))) (.k (x':=.cells 1 [v_0]) (by kernel_rfl) (.cells (.k (.c (cleanMap _ _ cl_GSign)) .z)) .z)))) ?_
      rintro ⟨l3_h2,l3_32⟩ out hl3 rl3 Kl3
      rcases iteE hl3 with ⟨hc8,hl3⟩ | ⟨hc8,hl3⟩
      ·obtain ⟨j4_h2,hj4,hl3⟩:=bindE hl3
       refine W 5 [.t] (cj1 hc8) ?_
       refine wG (fun (j4_h2:(List Int))=>(zipE [0,4,5,6,30,31,32] [.i a0,.mp 0 0 0,.mp 2 0 0,.i l2_6,v_0,v_1,.i l3_32])) (fun (j4_h2:(List Int))=>⟨[(2,.cells 1 [.ms 1 0 j4_h2.length]),(1,.cells 1 (j4_h2.map AV.i)),(0,.cells 1 [v_0])],4⟩) (fun j=>j4_h2 = j) (fun kj4=>?_) ?_
       ·obtain ⟨y9,hy9,hj4⟩:=bindE hj4
        obtain ⟨r10,hr10,hj4⟩:=bindE hj4
        obtain ⟨j5_67,hj5,hj4⟩:=bindE hj4
        refine W 4 [.r [{ k:=1,x:=E_GSign y9 }],.r [{},{},{ k:=7,x:=.i r10 }]] (cjC ((ixE hy9).1) (cjC (mapGet E_GSign (ixE hy9).2) (cj1 (f129_ok y9 _ hr10)))) ?_
        refine wG (fun (j5_67:Bool)=>(zipE [0,4,5,6,9,30,31,32,67] [.i a0,.mp 0 0 0,.mp 2 0 0,.i l2_6,.i (wr (l2_6 - r10)),v_0,v_1,.i l3_32,.bool j5_67])) (fun (j5_67:Bool)=>⟨[(2,.cells 1 [.ms 1 0 l3_h2.length]),(1,.cells 1 (l3_h2.map AV.i)),(0,.cells 1 [v_0])],4⟩) (fun j=>j5_67 = j) (fun kj5=>?_) ?_
        ·rcases iteE hj5 with ⟨hc11,hj5⟩ | ⟨hc11,hj5⟩
         ·obtain ⟨y12,hy12,hj5⟩:=bindE hj5
          rcases iteE hj5 with ⟨hc13,hj5⟩ | ⟨hc13,hj5⟩
          ·obtain ⟨y14,hy14,hj5⟩:=bindE hj5
           rcases iteE hj5 with ⟨hc15,hj5⟩ | ⟨hc15,hj5⟩
           ·replace hj5:=Option.some.inj hj5; subst hj5
            exact wX 1 [.r [{},{},{},{},{},{ k:=1,n:=(wr (l2_6 - r10)).toNat },{ k:=1,x:=AV.i y12 },{},{},{},{},{},{ k:=1,n:=l2_6.toNat },{ k:=1,x:=AV.i y14 },{},{},{ g:=false },{ g:=false },{ g:=false },{ g:=false },{ g:=false },{ g:=false },{ g:=false },{ g:=false },{ g:=false },{ g:=false }]] (cjC hc11 (cjC (Eq.refl true) (cjC (Eq.refl true) (cjC ((ixE hy12).1) (cjC (ixLt hy12) (cjC (Nat.zero_add (wr (l2_6 - r10)).toNat) (cjC (Eq.refl true) (cjC (mapGet AV.i (ixE hy12).2) (cjC (Eq.refl true) (cjC hc13 (cjC (Eq.refl true) (cjC (Eq.refl true) (cjC ((ixE hy14).1) (cjC (ixLt hy14) (cjC (Nat.zero_add l2_6.toNat) (cjC (Eq.refl true) (cjC (mapGet AV.i (ixE hy14).2) (cjC (Eq.refl true) (cjC (Eq.refl true) (cjC hc15 (cjC (Eq.refl true) (cjC (Eq.refl true) (cjC (Eq.refl true) (cjC (Eq.refl true) (cjC (Eq.refl true) (cjC (Eq.refl true) (cjC (Eq.refl true) (cjC (Eq.refl true) (cjC (Eq.refl true) (cj1 (Eq.refl true))))))))))))))))))))))))))))))) (kj5 true rfl)
           ·replace hj5:=Option.some.inj hj5; subst hj5
            exact wX 1 [.r [{},{},{},{},{},{ k:=1,n:=(wr (l2_6 - r10)).toNat },{ k:=1,x:=AV.i y12 },{},{},{},{},{},{ k:=1,n:=l2_6.toNat },{ k:=1,x:=AV.i y14 },{},{},{},{},{ k:=1,n:=(wr (l2_6 - r10)).toNat },{ k:=1,x:=AV.i y12 },{},{},{},{ k:=1,n:=l2_6.toNat },{ k:=1,x:=AV.i y14 }]] (cjC hc11 (cjC (Eq.refl true) (cjC (Eq.refl true) (cjC ((ixE hy12).1) (cjC (ixLt hy12) (cjC (Nat.zero_add (wr (l2_6 - r10)).toNat) (cjC (Eq.refl true) (cjC (mapGet AV.i (ixE hy12).2) (cjC (Eq.refl true) (cjC hc13 (cjC (Eq.refl true) (cjC (Eq.refl true) (cjC ((ixE hy14).1) (cjC (ixLt hy14) (cjC (Nat.zero_add l2_6.toNat) (cjC (Eq.refl true) (cjC (mapGet AV.i (ixE hy14).2) (cjC (Eq.refl true) (cjC (Eq.refl true) (cjC hc15 (cjC (Eq.refl false) (cjC (Eq.refl false) (cjC ((ixE hy12).1) (cjC (ixLt hy12) (cjC (Nat.zero_add (wr (l2_6 - r10)).toNat) (cjC (Eq.refl false) (cjC (mapGet AV.i (ixE hy12).2) (cjC (Eq.refl false) (cjC (Eq.refl false) (cjC (Eq.refl false) (cjC (Eq.refl false) (cjC ((ixE hy14).1) (cjC (ixLt hy14) (cjC (Nat.zero_add l2_6.toNat) (cjC (Eq.refl false) (cjC (mapGet AV.i (ixE hy14).2) (cjC (Eq.refl false) (cj1 (Eq.refl true))))))))))))))))))))))))))))))))))))))) (kj5 (decide ((wr (y12 + 1)) < y14)) rfl)
          ·replace hj5:=Option.some.inj hj5; subst hj5
           exact wX 1 [.r [{},{},{},{},{},{ k:=1,n:=(wr (l2_6 - r10)).toNat },{ k:=1,x:=AV.i y12 },{},{},{},{ g:=false },{ g:=false },{ g:=false },{ g:=false },{ g:=false },{ g:=false },{},{},{},{},{},{},{},{},{},{},{ g:=false }]] (cjC hc11 (cjC (Eq.refl true) (cjC (Eq.refl true) (cjC ((ixE hy12).1) (cjC (ixLt hy12) (cjC (Nat.zero_add (wr (l2_6 - r10)).toNat) (cjC (Eq.refl true) (cjC (mapGet AV.i (ixE hy12).2) (cjC (Eq.refl true) (cjC hc13 (cjC (Eq.refl false) (cjC (Eq.refl false) (cjC (Eq.refl false) (cjC (Eq.refl false) (cjC (Eq.refl false) (cj1 (Eq.refl false))))))))))))))))) (kj5 false rfl)
         ·replace hj5:=Option.some.inj hj5; subst hj5
          exact wX 1 [.r [{},{},{},{ g:=false },{ g:=false },{ g:=false },{ g:=false },{ g:=false },{},{},{ g:=false },{ g:=false },{ g:=false },{ g:=false },{ g:=false },{ g:=false },{},{},{},{},{},{},{},{},{},{},{ g:=false }]] (cjC hc11 (cjC (Eq.refl false) (cjC (Eq.refl false) (cjC (Eq.refl false) (cjC (Eq.refl false) (cjC (Eq.refl false) (cjC (Eq.refl false) (cjC (Eq.refl false) (cjC (Eq.refl false) (cjC (Eq.refl false) (cjC (Eq.refl false) (cj1 (Eq.refl false))))))))))))) (kj5 false rfl)
        ·rintro _ rfl
         rcases iteE hj4 with ⟨hc16,hj4⟩ | ⟨hc16,hj4⟩
         ·obtain ⟨y17,hy17,hj4⟩:=bindE hj4
          obtain ⟨y18,hy18,hj4⟩:=bindE hj4
          let b_2:Blk:=.cells 1 ((l3_h2.set l2_6.toNat (wr (y17 + 1))).map AV.i)
          refine wT 2 [.t,.r [{},{},{},{},{ k:=1,n:=(wr (l2_6 - r10)).toNat },{ k:=1,x:=AV.i y17 },{},{ k:=1,n:=l2_6.toNat },{ k:=1,x:=AV.i y18,l:=(l3_h2.set l2_6.toNat (wr (y17 + 1))).map AV.i }]] (cjC hc16 (cjC ((ixE hy17).1) (cjC (ixLt hy17) (cjC (Nat.zero_add (wr (l2_6 - r10)).toNat) (cjC (mapGet AV.i (ixE hy17).2) (cjC ((ixE hy18).1) (cjC (ixLt hy18) (cjC (Nat.zero_add l2_6.toNat) (cjC (mapGet AV.i (ixE hy18).2) (cjC ((by decide:(1:Nat) ≤ 1)) (cj1 (mapSet l3_h2 AV.i l2_6.toNat (wr (y17 + 1)))))))))))))) [0,4,5,6,30,31,32] [.i a0,.mp 0 0 0,.mp 2 0 0,.i l2_6,v_0,v_1,.i l3_32] ⟨[(2,.cells 1 [.ms 1 0 l3_h2.length]),(1,b_2),(0,.cells 1 [v_0])],4⟩ (wI 4 [] [0,4,5,6,30,31,32] [.i a0,.mp 0 0 0,.mp 2 0 0,.i l2_6,v_0,v_1,.i l3_32] (xs:=[.i a0,.mp 0 0 0,.mp 2 0 0,.i l2_6,v_0,v_1,.i l3_32]) (S2:=⟨[(2,.cells 1 [.ms 1 0 (l3_h2.set l2_6.toNat (wr (y17 + 1))).length]),(1,b_2),(0,.cells 1 [v_0])],4⟩) ?_ r0 (.k (.c rfl) (.k (.mp rfl rfl) (.k (.mp rfl rfl) (.k (.c rfl) (.k (.c (cleanMap _ _ cl_GSign)) (.k (.c rfl) (.k (.c rfl) .z))))))) (.k rfl (.cells (.k (.e rfl rfl (by simp)) .z)) (.k (x':=b_2) (by kernel_rfl) (.cells (.r (cleanMap _ _ cl_i))) (.k (x':=.cells 1 [v_0]) (by kernel_rfl) (.cells (.k (.c (cleanMap _ _ cl_GSign)) .z)) .z))))
          replace hj4:=Option.some.inj hj4; subst hj4
          exact wX 2 [] cj0 (kj4 (l3_h2.set l2_6.toNat (wr (y17 + 1))) rfl)
         ·replace hj4:=Option.some.inj hj4; subst hj4
          exact wX 4 [.f] (cj1 hc16) (kj4 l3_h2 rfl)
       ·rintro _ rfl
        replace hl3:=Option.some.inj hl3; subst hl3
        exact wD 1 [] cj0 (fun _ _=>Kl3.d _ _ _ rfl)
      ·replace hl3:=Option.some.inj hl3; subst hl3
       have hr:=rl3 _ rfl
       subst hr
       exact wX 7 [.f] (cjC hc8 (cj1 (Kl3.o _ rfl))) (kl3 l3_h2 rfl)
     ·rintro _ rfl
      replace hl2:=Option.some.inj hl2; subst hl2
      exact wX 3 [] cj0 (Kl2.n _ rfl)
    ·replace hl2:=Option.some.inj hl2; subst hl2
     have hr:=rl2 _ rfl
     subst hr
     exact wX 7 [.f] (cjC hc6 (cj1 (Kl2.o _ rfl))) (kl2 l2_h2 rfl)
   ·rintro _ rfl
    obtain ⟨y19,hy19,h⟩:=bindE h
    refine W 3 [.r [{},{},{ k:=1,n:=a0.toNat },{ k:=1,x:=AV.i y19 }]] (cjC ((ixE hy19).1) (cjC (ixLt hy19) (cjC (Nat.zero_add a0.toNat) (cj1 (mapGet AV.i (ixE hy19).2))))) ?_
    rcases iteE h with ⟨hc20,h⟩ | ⟨hc20,h⟩
    ·refine wT 2 [.t] (cj1 hc20) [2,3] [.sl true [],.i 25] ⟨[],3⟩ (wI 3 [] [2,3] [.sl true [],.i 25] (xs:=[.sl false (([]:List GSign).map E_GSign),.i 25]) (S2:=⟨[],3⟩) ?_ r0 (.k (.s (cleanMap (([]:List GSign)) _ cl_GSign)) (.k (.c rfl) .z)) .z)
     replace h:=Option.some.inj h; subst h
     exact wR 2 [] cj0
    ·let v_2:AV:=.ms 1 0 l2x_h2.length
     let w_0:AV:=.fn 130 [.mp 0 0 0,.mp 2 0 0,.mp 3 0 0,.mp 4 0 0]
     let b_3:Blk:=.cells 1 [.ms 5 0 ([]:List GSign).length]
     let b_4:Blk:=.cells 3 (([]:List GSign).map E_GSign)
     let b_5:Blk:=.cells 1 (l2x_h2.map AV.i)
     let s_0:St:=⟨[(5,b_4),(4,.cells 1 [w_0]),(3,b_3),(2,.cells 1 [v_2]),(1,b_5),(0,.cells 1 [v_0])],6⟩
     refine wT 6 [.f] (cj1 hc20) [0,10,11] [.i a0,.mp 3 0 0,.mp 4 0 0] ⟨[(4,.cells 1 [w_0]),(3,.cells 1 [.sl true []]),(2,.cells 1 [v_2]),(1,b_5),(0,.cells 1 [v_0])],5⟩ (wI 5 [(5,1000000)] [0,10,11] [.i a0,.mp 3 0 0,.mp 4 0 0] (xs:=[.i a0,.mp 3 0 0,.mp 4 0 0]) (S2:=s_0) ?_ r0 (.k (.c rfl) (.k (.mp rfl rfl) (.k (.mp rfl rfl) .z))) (.n rfl rfl rfl (.k rfl (.cells (.k (.f (.k (.mp rfl rfl) (.k (.mp rfl rfl) (.k (.mp rfl rfl) (.k (.mp rfl rfl) .z))))) .z)) (.k rfl (.cells (.k (.n) .z)) (.k rfl (.cells (.k (.ms rfl rfl) .z)) (.k rfl (.cells (.r (cleanMap _ _ cl_i))) (.k (x':=.cells 1 [v_0]) (by kernel_rfl) (.cells (.k (.c (cleanMap _ _ cl_GSign)) .z)) .z)))))))
     obtain ⟨r21,hr21,h⟩:=bindE h
     let v_3:AV:=.ms 6 0 r21.2.length
     let b_6:Blk:=.cells 3 (r21.2.map E_GSign)
     let s_1:St:=⟨[(6,b_6),(4,.cells 1 [w_0]),(3,.cells 1 [v_3]),(2,.cells 1 [v_2]),(1,b_5),(0,.cells 1 [v_0])],7⟩
     refine wT 2 [.r [{},{},{ c:=some (.bool r21.1,s_1) }]] (cj1 (callF (f130_ok a0 768 r3 l2x_h2 ([]:List GSign) _ hr21) [(0,0),(1,2),(2,1),(3,3),(4,5),(5,4)] [(6,6),(4,5),(3,3),(1,2),(2,1),(0,0)] [] [.i a0,.i 768,.mp 0 0 0,.mp 2 0 0,.mp 3 0 0,.mp 4 0 0] s_0 (.bool r21.1) s_1 (by kernel_rfl) (.k (.c rfl) (.k (.c rfl) (.k (.mp rfl rfl) (.k (.mp rfl rfl) (.k (.mp rfl rfl) (.k (.mp rfl rfl) .z)))))) (.c rfl) (.k rfl (.cells (.k (.f (.k (.mp rfl rfl) (.k (.mp rfl rfl) (.k (.mp rfl rfl) (.k (.mp rfl rfl) .z))))) .z)) (.k rfl (.cells (.r (cleanMap _ _ cl_GSign))) (.k rfl (.cells (.k (.ms rfl rfl) .z)) (.k rfl (.cells (.r (cleanMap _ _ cl_i))) (.k rfl (.cells (.k (.ms rfl rfl) .z)) (.k (x':=.cells 1 [v_0]) (by kernel_rfl) (.cells (.k (.c (cleanMap _ _ cl_GSign)) .z)) .z)))))) (.d (x':=b_6) rfl (by kernel_rfl) (.cells (.r (cleanMap _ _ cl_GSign))) (.d (x':=.cells 1 [.fn 130 [.mp 0 0 0,.mp 1 0 0,.mp 3 0 0,.mp 5 0 0]]) rfl (by kernel_rfl) (.cells (.k (.f (.k (.mp rfl rfl) (.k (.mp rfl rfl) (.k (.mp rfl rfl) (.k (.mp rfl rfl) .z))))) .z)) (.d (x':=.cells 1 [v_3]) rfl (by kernel_rfl) (.cells (.k (.ms rfl rfl) .z)) (.d (x':=.cells 1 [.ms 2 0 l2x_h2.length]) rfl (by kernel_rfl) (.cells (.k (.ms rfl rfl) .z)) (.d (x':=b_5) rfl (by kernel_rfl) (.cells (.r (cleanMap _ _ cl_i))) (.d (x':=.cells 1 [v_0]) rfl (by kernel_rfl) (.cells (.k (.c (cleanMap _ _ cl_GSign)) .z)) .z)))))))) [2,3] [v_3,.i 0] ⟨[(6,b_6)],7⟩ (wZ 6 3 (r21.2.map E_GSign) [2,3] [v_3,.i 0] (xs:=[.sl false (r21.2.map E_GSign),.i 0]) (S2:=⟨[],7⟩) ?_ (.k (.m (mLe r21.2 E_GSign) (mapAll r21.2 E_GSign)) (.k (.r _) .z)) .z)
     replace h:=Option.some.inj h; subst h
     exact wR 1 [] cj0
def f131 (a0:List GCourse):Option ((List GCourse)):=((bif (decide (a0 = [])) then (some ([]:List GCourse)) else (need (a0.length ≤ maxElems) <| some a0)):Option (List GCourse)).bind fun (j1_2:(List GCourse))=>some j1_2
theorem f131_ok (a0:List GCourse) (r:((List GCourse))) (h:f131 a0 = some r):APure Tryz.prog 131 [.sl false (a0.map E_GCourse)] (.sl false (r.map E_GCourse)):=by
 refine apure (clK (cleanMap a0 _ cl_GCourse) clZ) (cleanMap r _ cl_GCourse) ?_
 refine wf 8 [.tmp 2] (c131 0) ?_
 unfold f131 at h
 let v_0:AV:=.sl false (a0.map E_GCourse)
 refine wT 2 [] cj0 [0] [v_0] ⟨[],0⟩ (wNl (some 4) (zipE [0,3] [v_0,v_0]) (v_0) ?_)
 rintro (_ | _) hb
 ·clear hb
  obtain ⟨j1_2,hj1,h⟩:=bindE h
  refine W 3 [.f] (cj1 (Eq.refl false)) ?_
  refine wG (fun (j1_2:(List GCourse))=>(zipE [2] [.ms 1 0 j1_2.length])) (fun (j1_2:(List GCourse))=>⟨[(1,.cells 3 (j1_2.map E_GCourse))],2⟩) (fun j=>j1_2 = j) (fun kj1=>?_) ?_
  ·rcases iteE hj1 with ⟨hc1,hj1⟩ | ⟨hc1,hj1⟩
   ·replace hj1:=Option.some.inj hj1; subst hj1
    exact wXi 1 [.r [{},{},{ k:=2 }]] (cjC (mapNil E_GCourse (of_decide_eq_true hc1)) (cj1 (fitsMap (P:=Tryz.prog) (t:=201) (k:=3) a0 E_GCourse (by kernel_rfl) sz_GCourse))) [2] [.sl true []] ⟨[],0⟩ 1 [(1,1000000)] (kj1 ([]:List GCourse) rfl) r0 (.k (.n) .z) (.n rfl rfl rfl .z)
   ·obtain ⟨hn2,hj1⟩:=needE hj1
    replace hj1:=Option.some.inj hj1; subst hj1
    exact wXi 1 [.r [{},{},{ k:=1,n:=a0.length,l:=a0.map E_GCourse }]] (cjC (mapNe E_GCourse (of_decide_eq_false hc1)) (cjC (Eq.refl true) (cjC (bnd0 E_GCourse hn2) (cjC (fitsNil (P:=Tryz.prog) (t:=201)) (cjC (len0 a0 E_GCourse) (cjC (Eq.refl (a0.map E_GCourse)) (cj1 (fitsMap (P:=Tryz.prog) (t:=201) (k:=3) a0 E_GCourse (by kernel_rfl) sz_GCourse)))))))) [2] [.ms 0 0 a0.length] ⟨[(0,.cells 3 (a0.map E_GCourse))],1⟩ 1 [(1,0)] (kj1 a0 rfl) r0 (.k (.ms rfl rfl) .z) (.k rfl (.cells (.r (cleanMap _ _ cl_GCourse))) .z)
  ·rintro _ rfl
   refine wT 0 [] cj0 [2] [.ms 1 0 j1_2.length] ⟨[(1,.cells 3 (j1_2.map E_GCourse))],2⟩ (wZ 1 3 (j1_2.map E_GCourse) [2] [.ms 1 0 j1_2.length] (xs:=[.sl false (j1_2.map E_GCourse)]) (S2:=⟨[],2⟩) ?_ (.k (.m (mLe j1_2 E_GCourse) (mapAll j1_2 E_GCourse)) .z) .z)
   replace h:=Option.some.inj h; subst h
   exact wR 1 [] cj0
 ·replace hb:=nilSl (hb rfl)
  replace h:(some ([]:List GCourse)) = some r:=by simpa [hb,need,maxElems] using h
  refine wT 2 [.t] (cj1 (Eq.refl true)) [2] [.sl true []] ⟨[],0⟩ (wI 0 [] [2] [.sl true []] (xs:=[.sl false (([]:List GCourse).map E_GCourse)]) (S2:=⟨[],0⟩) ?_ r0 (.k (.s (cleanMap (([]:List GCourse)) _ cl_GCourse)) .z) .z)
  replace h:=Option.some.inj h; subst h
  exact wR 2 [] cj0
def f132 (a0:List Int):Option ((List Int)):=((bif (decide (a0 = [])) then (some ([]:List Int)) else (need (a0.length ≤ maxElems) <| some a0)):Option (List Int)).bind fun (j1_2:(List Int))=>some j1_2
theorem f132_ok (a0:List Int) (r:((List Int))) (h:f132 a0 = some r):APure Tryz.prog 132 [.sl false (a0.map AV.i)] (.sl false (r.map AV.i)):=by
 refine apure (clK (cleanMap a0 _ cl_i) clZ) (cleanMap r _ cl_i) ?_
 refine wf 8 [.tmp 2] (c132 0) ?_
 unfold f132 at h
 let v_0:AV:=.sl false (a0.map AV.i)
 refine wT 2 [] cj0 [0] [v_0] ⟨[],0⟩ (wNl (some 4) (zipE [0,3] [v_0,v_0]) (v_0) ?_)
 rintro (_ | _) hb
 ·clear hb
  obtain ⟨j1_2,hj1,h⟩:=bindE h
  refine W 3 [.f] (cj1 (Eq.refl false)) ?_
  refine wG (fun (j1_2:(List Int))=>(zipE [2] [.ms 1 0 j1_2.length])) (fun (j1_2:(List Int))=>⟨[(1,.cells 1 (j1_2.map AV.i))],2⟩) (fun j=>j1_2 = j) (fun kj1=>?_) ?_
  ·rcases iteE hj1 with ⟨hc1,hj1⟩ | ⟨hc1,hj1⟩
   ·replace hj1:=Option.some.inj hj1; subst hj1
    exact wXi 1 [.r [{},{},{ k:=2 }]] (cjC (mapNil AV.i (of_decide_eq_true hc1)) (cj1 (fitsMap (P:=Tryz.prog) (t:=3) (k:=1) a0 AV.i (by kernel_rfl) sz_i))) [2] [.sl true []] ⟨[],0⟩ 1 [(1,1000000)] (kj1 ([]:List Int) rfl) r0 (.k (.n) .z) (.n rfl rfl rfl .z)
   ·obtain ⟨hn2,hj1⟩:=needE hj1
    replace hj1:=Option.some.inj hj1; subst hj1
    exact wXi 1 [.r [{},{},{ k:=1,n:=a0.length,l:=a0.map AV.i }]] (cjC (mapNe AV.i (of_decide_eq_false hc1)) (cjC (Eq.refl true) (cjC (bnd0 AV.i hn2) (cjC (fitsNil (P:=Tryz.prog) (t:=3)) (cjC (len0 a0 AV.i) (cjC (Eq.refl (a0.map AV.i)) (cj1 (fitsMap (P:=Tryz.prog) (t:=3) (k:=1) a0 AV.i (by kernel_rfl) sz_i)))))))) [2] [.ms 0 0 a0.length] ⟨[(0,.cells 1 (a0.map AV.i))],1⟩ 1 [(1,0)] (kj1 a0 rfl) r0 (.k (.ms rfl rfl) .z) (.k rfl (.cells (.r (cleanMap _ _ cl_i))) .z)
  ·rintro _ rfl
   refine wT 0 [] cj0 [2] [.ms 1 0 j1_2.length] ⟨[(1,.cells 1 (j1_2.map AV.i))],2⟩ (wZ 1 1 (j1_2.map AV.i) [2] [.ms 1 0 j1_2.length] (xs:=[.sl false (j1_2.map AV.i)]) (S2:=⟨[],2⟩) ?_ (.k (.m (mLe j1_2 AV.i) (mapAll j1_2 AV.i)) .z) .z)
   replace h:=Option.some.inj h; subst h
   exact wR 1 [] cj0
 ·replace hb:=nilSl (hb rfl)
  replace h:(some ([]:List Int)) = some r:=by simpa [hb,need,maxElems] using h
  refine wT 2 [.t] (cj1 (Eq.refl true)) [2] [.sl true []] ⟨[],0⟩ (wI 0 [] [2] [.sl true []] (xs:=[.sl false (([]:List Int).map AV.i)]) (S2:=⟨[],0⟩) ?_ r0 (.k (.s (cleanMap (([]:List Int)) _ cl_i)) .z) .z)
  replace h:=Option.some.inj h; subst h
  exact wR 2 [] cj0
def f133 (a0:List GEvent):Option (List GEvent):=((bif (decide (a0 = [])) then (some ([]:List GEvent)) else (need (a0.length ≤ maxElems) <| some a0)):Option (List GEvent)).bind fun (j1_2:(List GEvent))=>some j1_2
theorem f133_ok (a0:List GEvent) (r:(List GEvent)) (h:f133 a0 = some r):ACalls Tryz.prog 133 [.sl false (a0.map E_GEvent)] ⟨[],0⟩ (fun y t=>y = .ms 2 0 r.length ∧ t = ⟨[(2,.cells 6 (r.map E_GEvent))],3⟩):=by
 refine wf 8 [.tmp 2] (c133 0) ?_
 unfold f133 at h
 let v_0:AV:=.sl false (a0.map E_GEvent)
 refine wT 2 [] cj0 [0] [v_0] ⟨[],0⟩ (wNl (some 4) (zipE [0,3] [v_0,v_0]) (v_0) ?_)
 rintro (_ | _) hb
 ·clear hb
  obtain ⟨j1_2,hj1,h⟩:=bindE h
  refine W 3 [.f] (cj1 (Eq.refl false)) ?_
  refine wG (fun (j1_2:(List GEvent))=>(zipE [2] [.ms 1 0 j1_2.length])) (fun (j1_2:(List GEvent))=>⟨[(1,.cells 6 (j1_2.map E_GEvent))],2⟩) (fun j=>j1_2 = j) (fun kj1=>?_) ?_
  ·rcases iteE hj1 with ⟨hc1,hj1⟩ | ⟨hc1,hj1⟩
   ·replace hj1:=Option.some.inj hj1; subst hj1
    exact wXi 1 [.r [{},{},{ k:=2 }]] (cjC (mapNil E_GEvent (of_decide_eq_true hc1)) (cj1 (fitsMap (P:=Tryz.prog) (t:=143) (k:=6) a0 E_GEvent (by kernel_rfl) sz_GEvent))) [2] [.sl true []] ⟨[],0⟩ 1 [(1,1000000)] (kj1 ([]:List GEvent) rfl) r0 (.k (.n) .z) (.n rfl rfl rfl .z)
   ·obtain ⟨hn2,hj1⟩:=needE hj1
    replace hj1:=Option.some.inj hj1; subst hj1
    exact wXi 1 [.r [{},{},{ k:=1,n:=a0.length,l:=a0.map E_GEvent }]] (cjC (mapNe E_GEvent (of_decide_eq_false hc1)) (cjC (Eq.refl true) (cjC (bnd0 E_GEvent hn2) (cjC (fitsNil (P:=Tryz.prog) (t:=143)) (cjC (len0 a0 E_GEvent) (cjC (Eq.refl (a0.map E_GEvent)) (cj1 (fitsMap (P:=Tryz.prog) (t:=143) (k:=6) a0 E_GEvent (by kernel_rfl) sz_GEvent)))))))) [2] [.ms 0 0 a0.length] ⟨[(0,.cells 6 (a0.map E_GEvent))],1⟩ 1 [(1,0)] (kj1 a0 rfl) r0 (.k (.ms rfl rfl) .z) (.k rfl (.cells (.r (cleanMap _ _ cl_GEvent))) .z)
  ·rintro _ rfl
   refine wT 0 [] cj0 [2] [.ms 1 0 j1_2.length] ⟨[(1,.cells 6 (j1_2.map E_GEvent))],2⟩ (wI 2 [(2,1)] [2] [.ms 1 0 j1_2.length] (xs:=[.ms 2 0 j1_2.length]) (S2:=⟨[(2,.cells 6 (j1_2.map E_GEvent))],3⟩) ?_ r0 (.k (.ms rfl rfl) .z) (.k rfl (.cells (.r (cleanMap _ _ cl_GEvent))) .z))
   replace h:=Option.some.inj h; subst h
   exact wP 1 [] cj0 ⟨rfl,rfl⟩
 ·replace hb:=nilSl (hb rfl)
  replace h:(some ([]:List GEvent)) = some r:=by simpa [hb,need,maxElems] using h
  refine wT 2 [.t] (cj1 (Eq.refl true)) [2] [.sl true []] ⟨[],0⟩ (wI 0 [(2,1000000)] [2] [.sl true []] (xs:=[.ms 2 0 ([]:List GEvent).length]) (S2:=⟨[(2,.cells 6 (([]:List GEvent).map E_GEvent))],3⟩) ?_ r0 (.k (.n) .z) (.n rfl rfl rfl .z))
  replace h:=Option.some.inj h; subst h
  exact wP 2 [] cj0 ⟨rfl,rfl⟩
def f134 (a0:List GStop):Option ((List GStop)):=((bif (decide (a0 = [])) then (some ([]:List GStop)) else (need (a0.length ≤ maxElems) <| some a0)):Option (List GStop)).bind fun (j1_2:(List GStop))=>some j1_2
theorem f134_ok (a0:List GStop) (r:((List GStop))) (h:f134 a0 = some r):APure Tryz.prog 134 [.sl false (a0.map E_GStop)] (.sl false (r.map E_GStop)):=by
 refine apure (clK (cleanMap a0 _ cl_GStop) clZ) (cleanMap r _ cl_GStop) ?_
 refine wf 8 [.tmp 2] (c134 0) ?_
 unfold f134 at h
 let v_0:AV:=.sl false (a0.map E_GStop)
 refine wT 2 [] cj0 [0] [v_0] ⟨[],0⟩ (wNl (some 4) (zipE [0,3] [v_0,v_0]) (v_0) ?_)
 rintro (_ | _) hb
 ·clear hb
  obtain ⟨j1_2,hj1,h⟩:=bindE h
  refine W 3 [.f] (cj1 (Eq.refl false)) ?_
  refine wG (fun (j1_2:(List GStop))=>(zipE [2] [.ms 1 0 j1_2.length])) (fun (j1_2:(List GStop))=>⟨[(1,.cells 5 (j1_2.map E_GStop))],2⟩) (fun j=>j1_2 = j) (fun kj1=>?_) ?_
  ·rcases iteE hj1 with ⟨hc1,hj1⟩ | ⟨hc1,hj1⟩
   ·replace hj1:=Option.some.inj hj1; subst hj1
    exact wXi 1 [.r [{},{},{ k:=2 }]] (cjC (mapNil E_GStop (of_decide_eq_true hc1)) (cj1 (fitsMap (P:=Tryz.prog) (t:=174) (k:=5) a0 E_GStop (by kernel_rfl) sz_GStop))) [2] [.sl true []] ⟨[],0⟩ 1 [(1,1000000)] (kj1 ([]:List GStop) rfl) r0 (.k (.n) .z) (.n rfl rfl rfl .z)
   ·obtain ⟨hn2,hj1⟩:=needE hj1
    replace hj1:=Option.some.inj hj1; subst hj1
    exact wXi 1 [.r [{},{},{ k:=1,n:=a0.length,l:=a0.map E_GStop }]] (cjC (mapNe E_GStop (of_decide_eq_false hc1)) (cjC (Eq.refl true) (cjC (bnd0 E_GStop hn2) (cjC (fitsNil (P:=Tryz.prog) (t:=174)) (cjC (len0 a0 E_GStop) (cjC (Eq.refl (a0.map E_GStop)) (cj1 (fitsMap (P:=Tryz.prog) (t:=174) (k:=5) a0 E_GStop (by kernel_rfl) sz_GStop)))))))) [2] [.ms 0 0 a0.length] ⟨[(0,.cells 5 (a0.map E_GStop))],1⟩ 1 [(1,0)] (kj1 a0 rfl) r0 (.k (.ms rfl rfl) .z) (.k rfl (.cells (.r (cleanMap _ _ cl_GStop))) .z)
  ·rintro _ rfl
   refine wT 0 [] cj0 [2] [.ms 1 0 j1_2.length] ⟨[(1,.cells 5 (j1_2.map E_GStop))],2⟩ (wZ 1 5 (j1_2.map E_GStop) [2] [.ms 1 0 j1_2.length] (xs:=[.sl false (j1_2.map E_GStop)]) (S2:=⟨[],2⟩) ?_ (.k (.m (mLe j1_2 E_GStop) (mapAll j1_2 E_GStop)) .z) .z)
   replace h:=Option.some.inj h; subst h
   exact wR 1 [] cj0
 ·replace hb:=nilSl (hb rfl)
  replace h:(some ([]:List GStop)) = some r:=by simpa [hb,need,maxElems] using h
  refine wT 2 [.t] (cj1 (Eq.refl true)) [2] [.sl true []] ⟨[],0⟩ (wI 0 [] [2] [.sl true []] (xs:=[.sl false (([]:List GStop).map E_GStop)]) (S2:=⟨[],0⟩) ?_ r0 (.k (.s (cleanMap (([]:List GStop)) _ cl_GStop)) .z) .z)
  replace h:=Option.some.inj h; subst h
  exact wR 2 [] cj0
def f82 (a0:GPiece):Option (List GCourse × List Int × List GEvent):=(f131 a0.instrument.courses).bind fun r1=>(f132 a0.instrument.steps).bind fun r2=>(f133 a0.events).bind fun r3=>(loopN (σ:=(List GEvent × Int)) (τ:=(List GEvent)) (fun ((l1_4,l1_20):(List GEvent × Int))=>bif (decide (l1_20 < (r3.length:Int))) then ((ix l1_4 l1_20).bind fun y5=>(f134 y5.stops).bind fun r6=>some (.inl ((l1_4.set l1_20.toNat (⟨y5.bar,y5.sign,y5.tie,r6⟩:GEvent)),(wr (l1_20 + 1))))) else (some (.inr l1_4))) FUEL (r3,0)).bind fun (l1x_4:(List GEvent))=>some (r1,r2,l1x_4)
theorem f82_ok (a0:GPiece) (r:(List GCourse × List Int × List GEvent)) (h:f82 a0 = some r):ACalls Tryz.prog 82 [E_GPiece a0] ⟨[],0⟩ (fun y t=>y = .agg [.sl false (r.1.map E_GCourse),.sl false (r.2.1.map AV.i),.ms 5 0 r.2.2.length] ∧ t = ⟨[(5,.cells 6 (r.2.2.map E_GEvent))],6⟩):=by
 refine wf 37 [.cell 2 74] (c82 0) ?_
 unfold f82 at h
 obtain ⟨r1,hr1,h⟩:=bindE h
 obtain ⟨r2,hr2,h⟩:=bindE h
 obtain ⟨r3,hr3,h⟩:=bindE h
 obtain ⟨l1x_4,hll1x,h⟩:=bindE h
 let v_0:AV:=.sl false (r1.map E_GCourse)
 let v_1:AV:=.sl false (r2.map AV.i)
 let w_0:AV:=.agg [.sl true [],.sl true [],.sl true []]
 let w_1:AV:=.agg [v_0,v_1]
 let b_0:Blk:=.cells 6 (r3.map E_GEvent)
 let b_1:Blk:=.cells 3 [E_GPiece a0]
 let s_0:St:=⟨[(5,b_0),(2,.cells 2 [w_1]),(1,.cells 3 [w_0]),(0,b_1)],6⟩
 refine W 5 [.n,.r [{},{},{},{},{},{},{ k:=7,x:=v_0 },{ k:=7,x:=v_1 }],.r [{},{},{ c:=some (.ms 5 0 r3.length,s_0) }]] (cjC (f131_ok a0.instrument.courses _ hr1) (cjC (@Eq.refl AV (.sl false (a0.instrument.steps.map AV.i))) (cjC (f132_ok a0.instrument.steps _ hr2) (cj1 (callF (f133_ok a0.events _ hr3) [] [(5,2)] [2,1,0] [.sl false (a0.events.map E_GEvent)] ⟨[(2,.cells 2 [w_1]),(1,.cells 3 [w_0]),(0,b_1)],3⟩ (.ms 5 0 r3.length) s_0 (by kernel_rfl) (.k (.c (cleanMap _ _ cl_GEvent)) .z) (.ms rfl rfl) .z (.d (x':=b_0) rfl (by kernel_rfl) (.cells (.r (cleanMap _ _ cl_GEvent))) (.f rfl (by kernel_rfl) (.f rfl (by kernel_rfl) (.f rfl (by kernel_rfl) .z))))))))) ?_
 refine wJ (fun (l1x_4:(List GEvent))=>(zipE [2,3,4] [.mp 1 0 0,.mp 2 0 0,.ms 5 0 l1x_4.length])) (fun (l1x_4:(List GEvent))=>⟨[(5,.cells 6 (l1x_4.map E_GEvent)),(2,.cells 2 [w_1]),(1,.cells 3 [w_0])],6⟩) (fun j=>l1x_4 = j) (fun kl1=>?_) ?_
 ·let v_2:AV:=.i (r3.length:Int)
  refine wL 1 [] cj0 hll1x 6 (fun ((l1_4,l1_20):(List GEvent × Int))=>(zipE [2,3,4,19,20] [.mp 1 0 0,.mp 2 0 0,.ms 5 0 l1_4.length,v_2,.i l1_20])) (fun ((l1_4,l1_20):(List GEvent × Int))=>⟨[(5,.cells 6 (l1_4.map E_GEvent)),(2,.cells 2 [w_1]),(1,.cells 3 [w_0])],6⟩) ?_
  rintro ⟨l1_4,l1_20⟩ out hl1 rl1 Kl1
  rcases iteE hl1 with ⟨hc4,hl1⟩ | ⟨hc4,hl1⟩
  ·obtain ⟨y5,hy5,hl1⟩:=bindE hl1
   obtain ⟨r6,hr6,hl1⟩:=bindE hl1
   let b_2:Blk:=.cells 6 ((l1_4.set l1_20.toNat (⟨y5.bar,y5.sign,y5.tie,r6⟩:GEvent)).map E_GEvent)
   let s_1:St:=⟨[(5,b_2),(2,.cells 2 [w_1]),(1,.cells 3 [w_0])],6⟩
   refine wT 9 [.t,.n,.r [{},{},{},{},{ k:=1,n:=l1_20.toNat },{},{ k:=1,x:=E_GEvent y5 },{ k:=7,x:=.sl false (r6.map E_GStop) },{ k:=1,n:=l1_20.toNat },{},{ k:=1,x:=E_GEvent y5,l:=(l1_4.set l1_20.toNat (⟨y5.bar,y5.sign,y5.tie,r6⟩:GEvent)).map E_GEvent }]] (cjC hc4 (cjC ((ixE hy5).1) (cjC (ixLt hy5) (cjC (Nat.zero_add l1_20.toNat) (cjC (mapGet E_GEvent (ixE hy5).2) (cjC (f134_ok y5.stops _ hr6) (cjC ((ixE hy5).1) (cjC (ixLt hy5) (cjC (Nat.zero_add l1_20.toNat) (cjC (mapGet E_GEvent (ixE hy5).2) (cjC ((by decide:(6:Nat) ≤ 6)) (cj1 (mapSet l1_4 E_GEvent l1_20.toNat (⟨y5.bar,y5.sign,y5.tie,r6⟩:GEvent)))))))))))))) [2,3,4,19,20] [.mp 1 0 0,.mp 2 0 0,.ms 5 0 l1_4.length,v_2,.i l1_20] s_1 (wI 6 [] [2,3,4,19,20] [.mp 1 0 0,.mp 2 0 0,.ms 5 0 l1_4.length,v_2,.i l1_20] (xs:=[.mp 1 0 0,.mp 2 0 0,.ms 5 0 (l1_4.set l1_20.toNat (⟨y5.bar,y5.sign,y5.tie,r6⟩:GEvent)).length,v_2,.i l1_20]) (S2:=s_1) ?_ r0 (.k (.mp rfl rfl) (.k (.mp rfl rfl) (.k (.e rfl rfl (by simp)) (.k (.c rfl) (.k (.c rfl) .z))))) (.k rfl (.cells (.r (cleanMap _ _ cl_GEvent))) (.k rfl (.cells (.k (.c (cl_GInstrument (⟨r1,r2⟩:GInstrument))) .z)) (.k (x':=.cells 3 [w_0]) (by kernel_rfl) (.cells (.k (.a (.k (.c rfl) (.k (.c rfl) (.k (.c rfl) .z)))) .z)) .z))))
   replace hl1:=Option.some.inj hl1; subst hl1
   exact wX 3 [] cj0 (Kl1.n _ rfl)
  ·replace hl1:=Option.some.inj hl1; subst hl1
   have hr:=rl1 _ rfl
   subst hr
   exact wX 7 [.f] (cjC hc4 (cj1 (Kl1.o _ rfl))) (kl1 l1_4 rfl)
 ·rintro _ rfl
  replace h:=Option.some.inj h; subst h
  exact wP 3 [] cj0 ⟨rfl,rfl⟩
def f32 (a0:List GPiece):Option (GConsort × Int):=(f79 a0).bind fun r1=>bif (decide (r1.2 ≠ 0)) then (some ((⟨([]:List GPiece)⟩:GConsort),r1.2)) else ((f80 r1.1).bind fun r3=>(loopN (σ:=(List GPiece × Int)) (τ:=((List GPiece) ⊕ (GConsort × Int))) (fun ((l1_h0_0,l1_25):(List GPiece × Int))=>bif (decide (l1_25 < (a0.length:Int))) then ((ix a0 l1_25).bind fun y5=>(ix r1.1 l1_25).bind fun y6=>(f81 (wr (r3 - y6))).bind fun r7=>bif (decide (r7.2 ≠ 0)) then (some (.inr (.inr ((⟨([]:List GPiece)⟩:GConsort),25)))) else (bif (decide (400 < (wr ((y5.events.length:Int) + (r7.1.length:Int))))) then (some (.inr (.inr ((⟨([]:List GPiece)⟩:GConsort),2)))) else ((f82 y5).bind fun r10=>(loopN (σ:=(List GEvent × Int)) (τ:=(List GEvent)) (fun ((l2_h2_2,l2_55):(List GEvent × Int))=>bif (decide (l2_55 < (r7.1.length:Int))) then ((ix r7.1 l2_55).bind fun y12=>need (l2_h2_2.length + 1 ≤ maxElems) <| some (.inl ((l2_h2_2 ++ [(⟨false,y12,false,([]:List GStop)⟩:GEvent)]),(wr (l2_55 + 1))))) else (some (.inr l2_h2_2))) FUEL (r10.2.2,0)).bind fun (l2x_h2_2:(List GEvent))=>need (l1_h0_0.length + 1 ≤ maxElems) <| some (.inl ((l1_h0_0 ++ [(⟨(⟨r10.1,r10.2.1⟩:GInstrument),l2x_h2_2⟩:GPiece)]),(wr (l1_25 + 1))))))) else (some (.inr (.inl l1_h0_0)))) FUEL (([]:List GPiece),0)).bind (Sum.elim (fun (l1x_h0_0:(List GPiece))=>some ((⟨l1x_h0_0⟩:GConsort),0)) some))
theorem f32_ok (a0:List GPiece) (r:(GConsort × Int)) (h:f32 a0 = some r):APure Tryz.prog 32 [.sl false (a0.map E_GPiece)] (.tup [E_GConsort r.1,.i r.2]):=by
 refine apure (clK (cleanMap a0 _ cl_GPiece) clZ) (clK (cl_GConsort r.1) (clK rfl clZ)) ?_
 refine wf 75 [.cell 2 24,.tmp 3] (c32 0) ?_
 unfold f32 at h
 obtain ⟨r1,hr1,h⟩:=bindE h
 let v_0:AV:=.sl false (r1.1.map AV.i)
 refine W 4 [.n,.r [{},{ k:=7,x:=.tup [v_0,.i r1.2] }]] (cj1 (f79_ok a0 _ hr1)) ?_
 rcases iteE h with ⟨hc2,h⟩ | ⟨hc2,h⟩
 ·let b_0:Blk:=.cells 1 [.agg [.sl true []]]
  refine wT 2 [.t] (cj1 hc2) [2,3] [.mp 0 0 0,.i r1.2] ⟨[(0,b_0)],1⟩ (wI 1 [] [2,3] [.mp 0 0 0,.i r1.2] (xs:=[.mp 0 0 0,.i r1.2]) (S2:=⟨[(0,.cells 1 [.agg [.sl false ((⟨([]:List GPiece)⟩:GConsort).pieces.map E_GPiece)]])],1⟩) ?_ r0 (.k (.mp rfl rfl) (.k (.c rfl) .z)) (.k (x':=b_0) (by kernel_rfl) (.cells (.k (.a (.k (.s (cleanMap (([]:List GPiece)) _ cl_GPiece)) .z)) .z)) .z))
  replace h:=Option.some.inj h; subst h
  exact wR 2 [] cj0
 ·obtain ⟨r3,hr3,h⟩:=bindE h
  obtain ⟨ol1x,hll1x,h⟩:=bindE h
  refine W 6 [.f,.r [{},{ k:=7,x:=.i r3 }],.r [{},{ k:=1,n:=a0.length }]] (cjC hc2 (cjC (f80_ok r1.1 _ hr3) (cj1 (mapLen a0 E_GPiece)))) ?_
  refine wJ (fun (l1x_h0_0:(List GPiece))=>(zipE [2] [.mp 0 0 0])) (fun (l1x_h0_0:(List GPiece))=>⟨[(1,.cells 3 (l1x_h0_0.map E_GPiece)),(0,.cells 1 [.agg [.ms 1 0 l1x_h0_0.length]])],2⟩) (fun j=>ol1x = .inl j) (fun kl1=>?_) ?_
  ·let v_1:AV:=.sl false (a0.map E_GPiece)
   let v_2:AV:=.i (a0.length:Int)
   let w_0:AV:=.agg [.sl true []]
   refine wLi 1 [] cj0 hll1x 1 (fun ((l1_h0_0,l1_25):(List GPiece × Int))=>(zipE [2,4,5,23,24,25] [.mp 0 0 0,v_0,.i r3,v_1,v_2,.i l1_25])) (fun ((l1_h0_0,l1_25):(List GPiece × Int))=>⟨[(1,.cells 3 (l1_h0_0.map E_GPiece)),(0,.cells 1 [.agg [.ms 1 0 l1_h0_0.length]])],2⟩) [2,4,5,23,24,25] [.mp 0 0 0,v_0,.i r3,v_1,v_2,.i 0] ⟨[(0,.cells 1 [w_0])],1⟩ (see_into r0 (mkInto (L:=[(1,1000000)]) (base:=1) (ks:=[2,4,5,23,24,25]) (ys:=[.mp 0 0 0,v_0,.i r3,v_1,v_2,.i 0]) (by kernel_rfl) (by kernel_rfl) (.k (.mp rfl rfl) (.k (.c (cleanMap _ _ cl_i)) (.k (.c rfl) (.k (.c (cleanMap _ _ cl_GPiece)) (.k (.c rfl) (.k (.c rfl) .z)))))) (.n rfl rfl rfl (.k (x':=.cells 1 [w_0]) (by kernel_rfl) (.cells (.k (.a (.k (.n) .z)) .z)) .z)))) ?_
   rintro ⟨l1_h0_0,l1_25⟩ out hl1 rl1 Kl1
   rcases iteE hl1 with ⟨hc4,hl1⟩ | ⟨hc4,hl1⟩
   ·obtain ⟨y5,hy5,hl1⟩:=bindE hl1
    obtain ⟨y6,hy6,hl1⟩:=bindE hl1
    obtain ⟨r7,hr7,hl1⟩:=bindE hl1
    let v_3:AV:=.sl false (r7.1.map E_GSign)
    refine W 11 [.t,.r [{},{ k:=1,x:=E_GPiece y5 }],.r [{},{},{},{ k:=1,x:=AV.i y6 },{},{},{ k:=7,x:=.tup [v_3,.i r7.2] }]] (cjC hc4 (cjC ((ixE hy5).1) (cjC (mapGet E_GPiece (ixE hy5).2) (cjC ((ixE hy6).1) (cjC (mapGet AV.i (ixE hy6).2) (cj1 (f81_ok (wr (r3 - y6)) _ hr7))))))) ?_
    rcases iteE hl1 with ⟨hc8,hl1⟩ | ⟨hc8,hl1⟩
    ·replace hl1:=Option.some.inj hl1; subst hl1
     have hr:=rl1 _ rfl
     subst hr
     replace h:=elimR h
     refine wT 2 [.t] (cj1 hc8) [2,3] [.mp 0 0 0,.i 25] ⟨[(0,.cells 1 [w_0])],3⟩ (wI 3 [] [2,3] [.mp 0 0 0,.i 25] (xs:=[.mp 0 0 0,.i 25]) (S2:=⟨[(0,.cells 1 [.agg [.sl false ((⟨([]:List GPiece)⟩:GConsort).pieces.map E_GPiece)]])],3⟩) ?_ r0 (.k (.mp rfl rfl) (.k (.c rfl) .z)) (.k (x':=.cells 1 [w_0]) (by kernel_rfl) (.cells (.k (.a (.k (.s (cleanMap (([]:List GPiece)) _ cl_GPiece)) .z)) .z)) .z))
     replace h:=Option.some.inj h; subst h
     exact wR 7 [] (cj1 (Kl1.o _ rfl))
    ·refine W 5 [.f,.r [{},{},{ k:=1,n:=y5.events.length },{},{ k:=1,n:=r7.1.length }]] (cjC hc8 (cjC (mapLen y5.events E_GEvent) (cj1 (mapLen r7.1 E_GSign)))) ?_
     rcases iteE hl1 with ⟨hc9,hl1⟩ | ⟨hc9,hl1⟩
     ·replace hl1:=Option.some.inj hl1; subst hl1
      have hr:=rl1 _ rfl
      subst hr
      replace h:=elimR h
      refine wT 2 [.t] (cj1 hc9) [2,3] [.mp 0 0 0,.i 2] ⟨[(0,.cells 1 [w_0])],3⟩ (wI 3 [] [2,3] [.mp 0 0 0,.i 2] (xs:=[.mp 0 0 0,.i 2]) (S2:=⟨[(0,.cells 1 [.agg [.sl false ((⟨([]:List GPiece)⟩:GConsort).pieces.map E_GPiece)]])],3⟩) ?_ r0 (.k (.mp rfl rfl) (.k (.c rfl) .z)) (.k (x':=.cells 1 [w_0]) (by kernel_rfl) (.cells (.k (.a (.k (.s (cleanMap (([]:List GPiece)) _ cl_GPiece)) .z)) .z)) .z))
      replace h:=Option.some.inj h; subst h
      exact wR 7 [] (cj1 (Kl1.o _ rfl))
     ·obtain ⟨r10,hr10,hl1⟩:=bindE hl1
      obtain ⟨l2x_h2_2,hll2x,hl1⟩:=bindE hl1
      let v_4:AV:=.sl false (r10.1.map E_GCourse)
      let v_5:AV:=.sl false (r10.2.1.map AV.i)
      let v_6:AV:=.ms 8 0 r10.2.2.length
      let v_7:AV:=.ms 1 0 l1_h0_0.length
      let w_1:AV:=.agg [v_4,v_5,v_6]
      let b_1:Blk:=.cells 6 (r10.2.2.map E_GEvent)
      let b_2:Blk:=.cells 3 (l1_h0_0.map E_GPiece)
      let b_3:Blk:=.cells 3 [E_GPiece y5]
      let b_4:Blk:=.cells 1 [.agg [v_7]]
      let s_0:St:=⟨[(8,b_1),(2,b_3),(1,b_2),(0,b_4)],9⟩
      refine W 6 [.f,.r [{},{ c:=some (w_1,s_0) }],.r [{},{ k:=1,n:=r7.1.length }]] (cjC hc9 (cjC (callF (f82_ok y5 _ hr10) [] [(8,5)] [2,1,0] [E_GPiece y5] ⟨[(2,b_3),(1,b_2),(0,b_4)],3⟩ (w_1) s_0 (by kernel_rfl) (.k (.c (cl_GPiece y5)) .z) (.a (.k (.c (cleanMap _ _ cl_GCourse)) (.k (.c (cleanMap _ _ cl_i)) (.k (.ms rfl rfl) .z)))) .z (.d (x':=b_1) rfl (by kernel_rfl) (.cells (.r (cleanMap _ _ cl_GEvent))) (.f rfl (by kernel_rfl) (.f rfl (by kernel_rfl) (.f rfl (by kernel_rfl) .z))))) (cj1 (mapLen r7.1 E_GSign)))) ?_
      refine wJ (fun (l2x_h2_2:(List GEvent))=>(zipE [2,4,5,7,23,24,25] [.mp 0 0 0,v_0,.i r3,.mp 2 0 0,v_1,v_2,.i l1_25])) (fun (l2x_h2_2:(List GEvent))=>⟨[(9,.cells 6 (l2x_h2_2.map E_GEvent)),(2,.cells 3 [.agg [v_4,v_5,.ms 9 0 l2x_h2_2.length]]),(1,b_2),(0,b_4)],10⟩) (fun j=>l2x_h2_2 = j) (fun kl2=>?_) ?_
      ·let v_8:AV:=.i (r7.1.length:Int)
       refine wLi 1 [] cj0 hll2x 9 (fun ((l2_h2_2,l2_55):(List GEvent × Int))=>(zipE [2,4,5,7,23,24,25,53,54,55] [.mp 0 0 0,v_0,.i r3,.mp 2 0 0,v_1,v_2,.i l1_25,v_3,v_8,.i l2_55])) (fun ((l2_h2_2,l2_55):(List GEvent × Int))=>⟨[(9,.cells 6 (l2_h2_2.map E_GEvent)),(2,.cells 3 [.agg [v_4,v_5,.ms 9 0 l2_h2_2.length]]),(1,b_2),(0,b_4)],10⟩) [2,4,5,7,23,24,25,53,54,55] [.mp 0 0 0,v_0,.i r3,.mp 2 0 0,v_1,v_2,.i l1_25,v_3,v_8,.i 0] ⟨[(8,b_1),(2,.cells 3 [w_1]),(1,b_2),(0,b_4)],9⟩ (see_into r0 (mkInto (L:=[(9,8)]) (base:=9) (ks:=[2,4,5,7,23,24,25,53,54,55]) (ys:=[.mp 0 0 0,v_0,.i r3,.mp 2 0 0,v_1,v_2,.i l1_25,v_3,v_8,.i 0]) (by kernel_rfl) (by kernel_rfl) (.k (.mp rfl rfl) (.k (.c (cleanMap _ _ cl_i)) (.k (.c rfl) (.k (.mp rfl rfl) (.k (.c (cleanMap _ _ cl_GPiece)) (.k (.c rfl) (.k (.c rfl) (.k (.c (cleanMap _ _ cl_GSign)) (.k (.c rfl) (.k (.c rfl) .z)))))))))) (.k rfl (.cells (.r (cleanMap _ _ cl_GEvent))) (.k (x':=.cells 3 [w_1]) (by kernel_rfl) (.cells (.k (.a (.k (.c (cleanMap _ _ cl_GCourse)) (.k (.c (cleanMap _ _ cl_i)) (.k (.ms rfl rfl) .z)))) .z)) (.k rfl (.cells (.r (cleanMap _ _ cl_GPiece))) (.k (x':=b_4) (by kernel_rfl) (.cells (.k (.a (.k (.ms rfl rfl) .z)) .z)) .z)))))) ?_
       rintro ⟨l2_h2_2,l2_55⟩ out hl2 rl2 Kl2
       rcases iteE hl2 with ⟨hc11,hl2⟩ | ⟨hc11,hl2⟩
       ·obtain ⟨y12,hy12,hl2⟩:=bindE hl2
        obtain ⟨hn13,hl2⟩:=needE hl2
        replace hl2:=Option.some.inj hl2; subst hl2
        let v_9:AV:=.bool y12.three
        let w_2:AV:=.agg [.bool false,.i y12.value,.bool y12.dot,v_9,.bool false,.sl true []]
        let w_3:AV:=.agg [v_4,v_5,.ms 11 0 (l2_h2_2.length + 1)]
        exact wN 12 [.t,.r [{ k:=1,x:=E_GSign y12 }],.r [{},{},{},{},{},{ k:=1,n:=(l2_h2_2.length + 1),l:=l2_h2_2.map E_GEvent ++ [w_2] }]] (cjC hc11 (cjC ((ixE hy12).1) (cjC (mapGet E_GSign (ixE hy12).2) (cjC (@List.cons_ne_nil AV (w_2) []) (cjC (mLe l2_h2_2 E_GEvent) (cjC hn13 (cjC (Eq.refl (l2_h2_2.length + 1)) (cjC (appR l2_h2_2 E_GEvent [w_2]) (cj1 (fitsOne (P:=Tryz.prog) (t:=143) (x:=w_2) (r:=[]) (by kernel_rfl))))))))))) [2,4,5,7,23,24,25,53,54,55] [.mp 0 0 0,v_0,.i r3,.mp 2 0 0,v_1,v_2,.i l1_25,v_3,v_8,.i (wr (l2_55 + 1))] ⟨[(11,.cells 6 (l2_h2_2.map E_GEvent ++ [w_2])),(2,.cells 3 [w_3]),(1,b_2),(0,b_4)],12⟩ Kl2 rfl (see_into r0 (mkInto (L:=[(9,11)]) (ks:=[2,4,5,7,23,24,25,53,54,55]) (ys:=[.mp 0 0 0,v_0,.i r3,.mp 2 0 0,v_1,v_2,.i l1_25,v_3,v_8,.i (wr (l2_55 + 1))]) (by kernel_rfl) (by kernel_rfl) (.k (.mp rfl rfl) (.k (.c (cleanMap _ _ cl_i)) (.k (.c rfl) (.k (.mp rfl rfl) (.k (.c (cleanMap _ _ cl_GPiece)) (.k (.c rfl) (.k (.c rfl) (.k (.c (cleanMap _ _ cl_GSign)) (.k (.c rfl) (.k (.c rfl) .z)))))))))) (.k rfl (.cells (appC (y:=(⟨false,y12,false,([]:List GStop)⟩:GEvent)) cl_GEvent (.a (.k (.c rfl) (.k (.c rfl) (.k (.c rfl) (.k (.c rfl) (.k (.c rfl) (.k (.s (cleanMap ([]:List GStop) _ cl_GStop)) .z))))))))) (.k (x':=.cells 3 [w_3]) (by kernel_rfl) (.cells (.k (.a (.k (.c (cleanMap _ _ cl_GCourse)) (.k (.c (cleanMap _ _ cl_i)) (.k (.e rfl rfl (by simp)) .z)))) .z)) (.k rfl (.cells (.r (cleanMap _ _ cl_GPiece))) (.k (x':=b_4) (by kernel_rfl) (.cells (.k (.a (.k (.ms rfl rfl) .z)) .z)) .z))))))
       ·replace hl2:=Option.some.inj hl2; subst hl2
        have hr:=rl2 _ rfl
        subst hr
        exact wX 7 [.f] (cjC hc11 (cj1 (Kl2.o _ rfl))) (kl2 l2_h2_2 rfl)
      ·rintro _ rfl
       let v_10:AV:=.sl false (l2x_h2_2.map E_GEvent)
       let w_4:AV:=.agg [v_4,v_5,.ms 9 0 l2x_h2_2.length]
       let w_5:AV:=.agg [v_4,v_5,v_10]
       refine wT 1 [] cj0 [2,4,5,7,23,24,25] [.mp 0 0 0,v_0,.i r3,.mp 2 0 0,v_1,v_2,.i l1_25] ⟨[(9,.cells 6 (l2x_h2_2.map E_GEvent)),(2,.cells 3 [w_4]),(1,b_2),(0,b_4)],10⟩ (wZ 9 6 (l2x_h2_2.map E_GEvent) [2,4,5,7,23,24,25] [.mp 0 0 0,v_0,.i r3,.mp 2 0 0,v_1,v_2,.i l1_25] (xs:=[.mp 0 0 0,v_0,.i r3,.mp 2 0 0,v_1,v_2,.i l1_25]) (S2:=⟨[(2,.cells 3 [w_5]),(1,b_2),(0,b_4)],10⟩) ?_ (.k (.r _) (.k (.r _) (.k (.r _) (.k (.r _) (.k (.r _) (.k (.r _) (.k (.r _) .z))))))) (.k (x':=.cells 3 [w_4]) rfl (by kernel_rfl) (.cells (.k (.a (.k (.r _) (.k (.r _) (.k (.m (mLe l2x_h2_2 E_GEvent) (mapAll l2x_h2_2 E_GEvent)) .z)))) .z)) (.k (x':=b_2) rfl (by kernel_rfl) (.r _) (.k (x':=b_4) rfl (by kernel_rfl) (.r _) .z))))
       obtain ⟨hn14,hl1⟩:=needE hl1
       replace hl1:=Option.some.inj hl1; subst hl1
       let w_6:AV:=.agg [.ms 10 0 (l1_h0_0 ++ [(⟨(⟨r10.1,r10.2.1⟩:GInstrument),l2x_h2_2⟩:GPiece)]).length]
       let b_5:Blk:=.cells 3 ((l1_h0_0 ++ [(⟨(⟨r10.1,r10.2.1⟩:GInstrument),l2x_h2_2⟩:GPiece)]).map E_GPiece)
       exact wN 4 [.r [{},{},{},{},{ k:=1,n:=(l1_h0_0 ++ [(⟨(⟨r10.1,r10.2.1⟩:GInstrument),l2x_h2_2⟩:GPiece)]).length,l:=(l1_h0_0 ++ [(⟨(⟨r10.1,r10.2.1⟩:GInstrument),l2x_h2_2⟩:GPiece)]).map E_GPiece }]] (cjC (@List.cons_ne_nil AV (w_5) []) (cjC (mLe l1_h0_0 E_GPiece) (cjC hn14 (cjC (lenA l1_h0_0 ([(⟨(⟨r10.1,r10.2.1⟩:GInstrument),l2x_h2_2⟩:GPiece)]:List GPiece)) (cjC (appA l1_h0_0 ([(⟨(⟨r10.1,r10.2.1⟩:GInstrument),l2x_h2_2⟩:GPiece)]:List GPiece) E_GPiece) (cj1 (fitsOne (P:=Tryz.prog) (t:=74) (x:=w_5) (r:=[]) (by kernel_rfl)))))))) [2,4,5,23,24,25] [.mp 0 0 0,v_0,.i r3,v_1,v_2,.i (wr (l1_25 + 1))] ⟨[(10,b_5),(0,.cells 1 [w_6])],11⟩ Kl1 rfl (see_into r0 (mkInto (L:=[(1,10)]) (ks:=[2,4,5,23,24,25]) (ys:=[.mp 0 0 0,v_0,.i r3,v_1,v_2,.i (wr (l1_25 + 1))]) (by kernel_rfl) (by kernel_rfl) (.k (.mp rfl rfl) (.k (.c (cleanMap _ _ cl_i)) (.k (.c rfl) (.k (.c (cleanMap _ _ cl_GPiece)) (.k (.c rfl) (.k (.c rfl) .z)))))) (.k (x':=b_5) (by kernel_rfl) (.cells (.r (cleanMap _ _ cl_GPiece))) (.k (x':=.cells 1 [w_6]) (by kernel_rfl) (.cells (.k (.a (.k (.ms rfl rfl) .z)) .z)) .z))))
   ·replace hl1:=Option.some.inj hl1; subst hl1
    have hr:=rl1 _ rfl
    subst hr
    exact wX 7 [.f] (cjC hc4 (cj1 (Kl1.o _ rfl))) (kl1 l1_h0_0 rfl)
  ·rintro l1x_h0_0 rfl
   replace h:=elimL h
   let w_7:AV:=.agg [.ms 1 0 l1x_h0_0.length]
   refine wT 2 [] cj0 [2,3] [.mp 0 0 0,.i 0] ⟨[(1,.cells 3 (l1x_h0_0.map E_GPiece)),(0,.cells 1 [w_7])],2⟩ (wZ 1 3 (l1x_h0_0.map E_GPiece) [2,3] [.mp 0 0 0,.i 0] (xs:=[.mp 0 0 0,.i 0]) (S2:=⟨[(0,.cells 1 [.agg [.sl false (l1x_h0_0.map E_GPiece)]])],2⟩) ?_ (.k (.r _) (.k (.r _) .z)) (.k (x':=.cells 1 [w_7]) rfl (by kernel_rfl) (.cells (.k (.a (.k (.m (mLe l1x_h0_0 E_GPiece) (mapAll l1x_h0_0 E_GPiece)) .z)) .z)) .z))
   replace h:=Option.some.inj h; subst h
   exact wR 1 [] cj0
end Go.Proofs.YtodkhgjhodmeoaaGreat
