/-
 Functions of the program as Lean functions,and the walks. Written by a program of ours.
-/
import Derived.Test.YtpljabnngpnieaaV32
import Derived.Test.YtpljabnngpnieaaV11
import Derived.Test.YtpljabnngpnieaaV13
import Derived.Test.YtpljabnngpnieaaV14
import Derived.Test.YtpljabnngpnieaaV15
import Derived.Test.YtpljabnngpnieaaV25
import Derived.Test.YtpljabnngpnieaaV18
import Derived.Test.YtpljabnngpnieaaV23
namespace Go.Proofs.Ytpljabnngpnieaa
open Go Go.Am
set_option maxRecDepth 100000
set_option linter.all false
noncomputable def c7 (k:Nat):Code:=nthC (subs (Try.f7.body.getD .skip)) k
def f26_1 (a0:List GVoice) (a1:List GVoice):Option Bool:=bif (decide ((a0.length:Int) ≠ (a1.length:Int))) then (some false) else ((loopN (σ:=Int) (τ:=(Unit ⊕ Bool)) (fun (l1_5:Int)=>bif (decide (l1_5 < (a0.length:Int))) then ((ix a0 l1_5).bind fun y3=>(ix a1 l1_5).bind fun y4=>bif (!(eq_GVoice y3 y4)) then (some (.inr (.inr false))) else (some (.inl (wr (l1_5 + 1))))) else (some (.inr (.inl ())))) FUEL 0).bind (Sum.elim (fun (_:Unit)=>some true) some))
theorem f26_1_ok (a0:List GVoice) (a1:List GVoice) (r:Bool) (h:f26_1 a0 a1 = some r):ACalls Try.prog 26 [.sl false (a0.map E_GVoice),.ms 0 0 a1.length] ⟨[(0,.cells 3 (a1.map E_GVoice))],1⟩ (fun y t=>y = .bool r ∧ t = ⟨[(0,.cells 3 (a1.map E_GVoice))],1⟩):=by
 let v_0:AV:=.sl false (a0.map E_GVoice)
 let v_1:AV:=.ms 0 0 a1.length
 refine run_f 26 [.tmp 4] (c26 0) (zipE [0,1] [v_0,v_1]) (by kernel_rfl) (by kernel_rfl) (by kernel_rfl) rfl ?_
 unfold f26_1 at h
 let b_0:Blk:=.cells 3 (a1.map E_GVoice)
 refine run1z (c26 2) [] [0,1] [v_0,v_1] ⟨[(0,b_0)],1⟩ _ (by kernel_rfl) cj0 ?_
 refine run_s (c26 3) (c26 10) (by kernel_rfl) ?_
 refine run1z (c26 5) [{},{ k:=1,n:=a0.length }] [0,1,10] [v_0,v_1,.bool (decide ((a0.length:Int) ≠ (a1.length:Int)))] ⟨[(0,b_0)],1⟩ _ (by kernel_rfl) (cj1 (mapLen a0 E_GVoice)) ?_
 rcases iteE h with ⟨hc1,h⟩ | ⟨hc1,h⟩
 ·refine run_cT 10 (c26 6) (c26 9) (decide ((a0.length:Int) ≠ (a1.length:Int))) hc1 (by kernel_rfl) (by kernel_rfl) ?_
  refine run1z (c26 8) [] [4] [.bool false] ⟨[(0,b_0)],1⟩ _ (by kernel_rfl) cj0 ?_
  refine run_t (by kernel_rfl) ?_
  refine thenR ?_
  replace h:=Option.some.inj h; subst h
  exact fin_p [0] ⟨[(0,b_0)],1⟩ (by kernel_rfl) (by kernel_rfl) rfl ⟨rfl,rfl⟩
 ·refine run_cF 10 (c26 6) (c26 9) (decide ((a0.length:Int) ≠ (a1.length:Int))) hc1 (by kernel_rfl) (by kernel_rfl) ?_
  refine run_k (by kernel_rfl) ?_
  refine thenN ?_
  refine run_s (c26 11) (c26 31) (by kernel_rfl) ?_
  refine run1z (c26 13) [] [0,1,5] [v_0,v_1,.i 0] ⟨[(0,b_0)],1⟩ _ (by kernel_rfl) cj0 ?_
  obtain ⟨ol1x,hll1x,h⟩:=bindE h
  refine run_tq (fun (_:Unit)=>(zipE [] [])) (fun (_:Unit)=>⟨[(0,b_0)],1⟩) (fun j=>ol1x = .inl j) (fun kl1=>?_) ?_
  ·refine run_b 0 (c26 14) (by kernel_rfl) ?_
   refine run_l (c26 15) _ hll1x (fun (l1_5:Int)=>(zipE [0,1,5] [v_0,v_1,.i l1_5])) (fun (l1_5:Int)=>⟨[(0,b_0)],1⟩) [] (by intro i e; cases e <;> exact Nat.le_of_ble_eq_true rfl) (by kernel_rfl) (mkInto (ks:=[0,1,5]) (ys:=[v_0,v_1,.i 0]) (by kernel_rfl) (by kernel_rfl) (.k (.c (cleanMap _ _ cl_GVoice)) (.k (.ms rfl rfl) (.k (.c rfl) .z))) (.k rfl (.cells (.r (cleanMap _ _ cl_GVoice))) .z)) ?_
   rintro l1_5 out hl1 rl1
   refine run_s (c26 16) (c26 21) (by kernel_rfl) ?_
   refine run1z (c26 18) [{},{},{ k:=1,n:=a0.length }] [0,1,5,14] [v_0,v_1,.i l1_5,.bool (decide (l1_5 < (a0.length:Int)))] ⟨[(0,b_0)],1⟩ _ (by kernel_rfl) (cj1 (mapLen a0 E_GVoice)) ?_
   rcases iteE hl1 with ⟨hc2,hl1⟩ | ⟨hc2,hl1⟩
   ·refine run_cT 14 (c26 19) (c26 20) (decide (l1_5 < (a0.length:Int))) hc2 (by kernel_rfl) (by kernel_rfl) ?_
    refine run_k (by kernel_rfl) ?_
    refine thenN ?_
    refine run_s (c26 22) (c26 30) (by kernel_rfl) ?_
    refine run_b 1 (c26 23) (by kernel_rfl) ?_
    obtain ⟨y3,hy3,hl1⟩:=bindE hl1
    obtain ⟨y4,hy4,hl1⟩:=bindE hl1
    refine yun1z (c26 25) [[],[],[0,1],[0,1,2],[],[],[4,5],[4,5,6],[0,1,2,3,4,5,6,7]] [.light 0 false,.light 1 false,.light 2 false,.light 3 false,.light 4 false,.light 5 false,.light 6 false,.light 7 false,.light 8 false] [{},{},{ k:=1,x:=E_GVoice y3 },{},{},{},{ k:=1,n:=l1_5.toNat },{ k:=1,x:=E_GVoice y4 }] [0,1,5,25] [v_0,v_1,.i l1_5,.bool (!(eq_GVoice y3 y4))] ⟨[(0,b_0)],1⟩ _ (by kernel_rfl) (cjC ((ixE hy3).1) (cjC (mapGet E_GVoice (ixE hy3).2) (cjC ((ixE hy4).1) (cjC (ixLt hy4) (cjC (Nat.zero_add l1_5.toNat) (cj1 (mapGet E_GVoice (ixE hy4).2))))))) ?_
    rcases iteE hl1 with ⟨hc5,hl1⟩ | ⟨hc5,hl1⟩
    ·refine run_cT 25 (c26 26) (c26 29) (!(eq_GVoice y3 y4)) hc5 (by kernel_rfl) (by kernel_rfl) ?_
     refine run1z (c26 28) [] [4] [.bool false] ⟨[(0,b_0)],1⟩ _ (by kernel_rfl) cj0 ?_
     replace hl1:=Option.some.inj hl1; subst hl1
     have hr:=rl1 _ rfl
     subst hr
     replace h:=elimR h
     refine run_t (by kernel_rfl) ?_
     refine inbR ?_
     refine thenR ?_
     refine ⟨⟨_,rfl⟩,?_⟩
     refine inbR ?_
     refine thenR ?_
     replace h:=Option.some.inj h; subst h
     exact fin_p [0] ⟨[(0,b_0)],1⟩ (by kernel_rfl) (by kernel_rfl) rfl ⟨rfl,rfl⟩
    ·refine run_cF 25 (c26 26) (c26 29) (!(eq_GVoice y3 y4)) hc5 (by kernel_rfl) (by kernel_rfl) ?_
     refine run_k (by kernel_rfl) ?_
     refine inbN ?_
     refine thenN ?_
     refine run0z [] [0,1,5] [v_0,v_1,.i (wr (l1_5 + 1))] ⟨[(0,b_0)],1⟩ _ (by kernel_rfl) cj0 ?_
     replace hl1:=Option.some.inj hl1; subst hl1
     exact ⟨_,rfl,pi [],mkInto (ks:=[0,1,5]) (ys:=[v_0,v_1,.i (wr (l1_5 + 1))]) (by kernel_rfl) (by kernel_rfl) (.k (.c (cleanMap _ _ cl_GVoice)) (.k (.ms rfl rfl) (.k (.c rfl) .z))) (.k rfl (.cells (.r (cleanMap _ _ cl_GVoice))) .z)⟩
   ·refine run_cF 14 (c26 19) (c26 20) (decide (l1_5 < (a0.length:Int))) hc2 (by kernel_rfl) (by kernel_rfl) ?_
    replace hl1:=Option.some.inj hl1; subst hl1
    have hr:=rl1 _ rfl
    subst hr
    refine awp_p [] [0] (zipE [] []) ⟨[(0,b_0)],1⟩ (by kernel_rfl) (?_)
    refine run_e 0 (by kernel_rfl) ?_
    refine thenE ?_
    refine ⟨⟨_,rfl⟩,?_⟩
    refine inbE ?_
    exact kl1 () rfl
  ·rintro ⟨⟩ rfl
   replace h:=elimL h
   refine thenN ?_
   refine run1z (c26 33) [] [4] [.bool true] ⟨[(0,b_0)],1⟩ _ (by kernel_rfl) cj0 ?_
   refine run_t (by kernel_rfl) ?_
   replace h:=Option.some.inj h; subst h
   exact fin_p [0] ⟨[(0,b_0)],1⟩ (by kernel_rfl) (by kernel_rfl) rfl ⟨rfl,rfl⟩
def f7 (a0:GConsort) (a1:List GLaw09Call):Option Bool:=(f9 a0.pieces).bind fun r1=>bif r1 then ((f10).bind fun r3=>some r3) else ((f11 a0).bind (Sum.elim (fun r4a=>bif (decide (r4a ≠ 0)) then ((f10).bind fun r6=>some r6) else (none)) (fun r4b=>(loopN (σ:=(Int × Int × Bool × List GCDesk × Int × Int × Int × List GCLive × List GTake × List GVoice × Int)) (τ:=(Unit ⊕ Bool)) (fun ((l1_h2_0,l1_h2_1,l1_h2_3,l1_h2_4,l1_h2_5,l1_h2_6,l1_h2_7,l1_h2_8,l1_h2_10,l1_7,l1_8):(Int × Int × Bool × List GCDesk × Int × Int × Int × List GCLive × List GTake × List GVoice × Int))=>((bif (decide (l1_8 < (a1.length:Int))) then (some (decide (l1_8 < 60))) else (some false)):Option Bool).bind fun (j2_36:Bool)=>bif j2_36 then ((ix a1 l1_8).bind fun y9=>(((f12 y9.what 8).bind fun r10=>bif (decide (r10 = 4)) then ((f15_1 (⟨(⟨l1_h2_0⟩:GCClock),l1_h2_1,r4b.1,l1_h2_3,l1_h2_4,l1_h2_5,l1_h2_6,l1_h2_7,(⟨l1_h2_8⟩:GCShelf_live),l1_h2_10⟩:GCPlayer) y9.a).bind fun r12=>some (l1_h2_0,r12.2.2.1,r12.2.2.2.1,r12.2.2.2.2.1,l1_h2_5,l1_h2_6,l1_h2_7,r12.2.2.2.2.2.1,r12.2.2.2.2.2.2,(⟨r12.1.time,r12.1.begin,r12.1.end_⟩:GFrame))) else (bif (decide (r10 = 5)) then ((f18_1 (⟨(⟨l1_h2_0⟩:GCClock),l1_h2_1,r4b.1,l1_h2_3,l1_h2_4,l1_h2_5,l1_h2_6,l1_h2_7,(⟨l1_h2_8⟩:GCShelf_live),l1_h2_10⟩:GCPlayer) y9.a y9.b y9.c).bind fun r14=>some (l1_h2_0,l1_h2_1,l1_h2_3,l1_h2_4,r14.2.1,r14.2.2.1,r14.2.2.2,l1_h2_8,l1_h2_10,(⟨0,([]:List GVoice),([]:List GVoice)⟩:GFrame))) else (bif (decide (r10 = 6)) then ((f12 y9.b 2).bind fun r16=>(f25_1 (⟨(⟨l1_h2_0⟩:GCClock),l1_h2_1,r4b.1,l1_h2_3,l1_h2_4,l1_h2_5,l1_h2_6,l1_h2_7,(⟨l1_h2_8⟩:GCShelf_live),l1_h2_10⟩:GCPlayer) y9.a (decide (r16 = 1))).bind fun r17=>some (l1_h2_0,l1_h2_1,l1_h2_3,r17.2.2.1,l1_h2_5,l1_h2_6,l1_h2_7,r17.2.2.2.1,r17.2.2.2.2,(⟨r17.1.time,r17.1.begin,r17.1.end_⟩:GFrame))) else ((f13_1 (⟨(⟨l1_h2_0⟩:GCClock),l1_h2_1,r4b.1,l1_h2_3,l1_h2_4,l1_h2_5,l1_h2_6,l1_h2_7,(⟨l1_h2_8⟩:GCShelf_live),l1_h2_10⟩:GCPlayer)).bind fun r18=>some (r18.2.2.1,r18.2.2.2.1,r18.2.2.2.2.1,r18.2.2.2.2.2.1,l1_h2_5,l1_h2_6,r18.2.2.2.2.2.2.1,r18.2.2.2.2.2.2.2.1,r18.2.2.2.2.2.2.2.2,(⟨r18.1.time,r18.1.begin,r18.1.end_⟩:GFrame)))))):Option (Int × Int × Bool × List GCDesk × Int × Int × Int × List GCLive × List GTake × GFrame)).bind fun ((j3_h2_0,j3_h2_1,j3_h2_3,j3_h2_4,j3_h2_5,j3_h2_6,j3_h2_7,j3_h2_8,j3_h2_10,j3_h10):(Int × Int × Bool × List GCDesk × Int × Int × Int × List GCLive × List GTake × GFrame))=>(loopN (σ:=(List GVoice × Int)) (τ:=((List GVoice) ⊕ ((Int × Int × Bool × List GCDesk × Int × Int × Int × List GCLive × List GTake × List GVoice × Int) ⊕ (Unit ⊕ Bool)))) (fun ((l4_7,l4_86):(List GVoice × Int))=>bif (decide (l4_86 < (j3_h10.end_.length:Int))) then ((ix j3_h10.end_ l4_86).bind fun y20=>(loopN (σ:=Int) (τ:=Int) (fun (l5_13:Int)=>((bif (decide (l5_13 < (l4_7.length:Int))) then ((ix l4_7 l5_13).bind fun y22=>some (!(eq_GVoice y22 y20))) else (some false)):Option Bool).bind fun (j6_101:Bool)=>bif j6_101 then (some (.inl (wr (l5_13 + 1)))) else (some (.inr l5_13))) FUEL 0).bind fun (l5x_13:Int)=>bif (decide (l5x_13 = (l4_7.length:Int))) then (some (.inr (.inr (.inr (.inr false))))) else (((need (0 ≤ l5x_13) <| need (l5x_13.toNat ≤ l4_7.length) <| need (0 ≤ (wr (l5x_13 + 1))) <| need ((wr (l5x_13 + 1)).toNat ≤ l4_7.length) <| bif (decide (((l4_7.drop (wr (l5x_13 + 1)).toNat).take (l4_7.length - (wr (l5x_13 + 1)).toNat)) = [])) then (need ((wr (l5x_13 + 1)).toNat + (l4_7.length - (wr (l5x_13 + 1)).toNat) ≤ l4_7.length) <| some (l4_7.take l5x_13.toNat)) else (need ((wr (l5x_13 + 1)).toNat + (l4_7.length - (wr (l5x_13 + 1)).toNat) ≤ l4_7.length) <| need (0 + l5x_13.toNat ≤ l4_7.length) <| need (l5x_13.toNat + ((l4_7.drop (wr (l5x_13 + 1)).toNat).take (l4_7.length - (wr (l5x_13 + 1)).toNat)).length ≤ maxElems) <| some (((l4_7.drop 0).take l5x_13.toNat) ++ ((l4_7.drop (wr (l5x_13 + 1)).toNat).take (l4_7.length - (wr (l5x_13 + 1)).toNat))))):Option (List GVoice)).bind fun (j7_7:(List GVoice))=>some (.inl (j7_7,(wr (l4_86 + 1)))))) else (some (.inr (.inl l4_7)))) FUEL (l1_7,0)).bind (Sum.elim (fun (l4x_7:(List GVoice))=>(loopN (σ:=(List GVoice × Int)) (τ:=((List GVoice) ⊕ ((Int × Int × Bool × List GCDesk × Int × Int × Int × List GCLive × List GTake × List GVoice × Int) ⊕ (Unit ⊕ Bool)))) (fun ((l8_7,l8_121):(List GVoice × Int))=>bif (decide (l8_121 < (j3_h10.begin.length:Int))) then ((ix j3_h10.begin l8_121).bind fun y36=>(loopN (σ:=Int) (τ:=Int) (fun (l9_16:Int)=>((bif (decide (l9_16 < (l8_7.length:Int))) then ((ix l8_7 l9_16).bind fun y38=>bif (decide (y38.desk < y36.desk)) then (some true) else (bif (decide (y38.desk = y36.desk)) then (some (decide (y38.course < y36.course))) else (some false))) else (some false)):Option Bool).bind fun (j10_158:Bool)=>bif j10_158 then (some (.inl (wr (l9_16 + 1)))) else (some (.inr l9_16))) FUEL 0).bind fun (l9x_16:Int)=>((bif (decide (l9x_16 < (l8_7.length:Int))) then ((ix l8_7 l9x_16).bind fun y43=>bif (decide (y43.desk = y36.desk)) then (some (decide (y43.course = y36.course))) else (some false)) else (some false)):Option Bool).bind fun (j11_184:Bool)=>bif j11_184 then (some (.inr (.inr (.inr (.inr false))))) else (((need (0 ≤ l9x_16) <| need (l9x_16.toNat ≤ l8_7.length) <| bif (decide (((l8_7.drop l9x_16.toNat).take (l8_7.length - l9x_16.toNat)) = [])) then (need (l9x_16.toNat + (l8_7.length - l9x_16.toNat) ≤ l8_7.length) <| need (0 + l9x_16.toNat ≤ l8_7.length) <| need (l9x_16.toNat + 1 ≤ maxElems) <| some (((l8_7.drop 0).take l9x_16.toNat) ++ ([y36]:List GVoice))) else (need (l9x_16.toNat + (l8_7.length - l9x_16.toNat) ≤ l8_7.length) <| need (([y36]:List GVoice).length + ((l8_7.drop l9x_16.toNat).take (l8_7.length - l9x_16.toNat)).length ≤ maxElems) <| bif (decide ((([y36]:List GVoice) ++ ((l8_7.drop l9x_16.toNat).take (l8_7.length - l9x_16.toNat))) = [])) then (some (l8_7.take l9x_16.toNat)) else (need (0 + l9x_16.toNat ≤ l8_7.length) <| need (l9x_16.toNat + (([y36]:List GVoice) ++ ((l8_7.drop l9x_16.toNat).take (l8_7.length - l9x_16.toNat))).length ≤ maxElems) <| some (((l8_7.drop 0).take l9x_16.toNat) ++ (([y36]:List GVoice) ++ ((l8_7.drop l9x_16.toNat).take (l8_7.length - l9x_16.toNat))))))):Option (List GVoice)).bind fun (j12_7:(List GVoice))=>some (.inl (j12_7,(wr (l8_121 + 1)))))) else (some (.inr (.inl l8_7)))) FUEL (l4x_7,0)).bind (Sum.elim (fun (l8x_7:(List GVoice))=>(f23_1 (⟨(⟨j3_h2_0⟩:GCClock),j3_h2_1,r4b.1,j3_h2_3,j3_h2_4,j3_h2_5,j3_h2_6,j3_h2_7,(⟨j3_h2_8⟩:GCShelf_live),j3_h2_10⟩:GCPlayer)).bind fun r58=>(f26_1 r58 l8x_7).bind fun r59=>bif (!r59) then (some (.inr (.inr false))) else (some (.inl (j3_h2_0,j3_h2_1,j3_h2_3,j3_h2_4,j3_h2_5,j3_h2_6,j3_h2_7,j3_h2_8,j3_h2_10,l8x_7,(wr (l1_8 + 1)))))) some)) some)) else (some (.inr (.inl ())))) FUEL (0,0,true,r4b.2,0,0,0,([]:List GCLive),([]:List GTake),([]:List GVoice),0)).bind (Sum.elim (fun (_:Unit)=>(f10).bind fun r61=>some r61) some))))
theorem f7_ok (a0:GConsort) (a1:List GLaw09Call) (r:Bool) (h:f7 a0 a1 = some r):APure Try.prog 7 [E_GConsort a0,.sl false (a1.map E_GLaw09Call)] (.bool r):=by
 refine apure (clK (cl_GConsort a0) (clK (cleanMap a1 _ cl_GLaw09Call) clZ)) rfl ?_
 let v_0:AV:=.sl false (a1.map E_GLaw09Call)
 refine run_f 203 [.tmp 4] (c7 0) (zipE [0,1] [E_GConsort a0,v_0]) (by kernel_rfl) (by kernel_rfl) (by kernel_rfl) rfl ?_
 unfold f7 at h
 let b_0:Blk:=.cells 1 [E_GConsort a0]
 refine run1z (c7 2) [] [1,2] [v_0,.mp 0 0 0] ⟨[(0,b_0)],1⟩ _ (by kernel_rfl) cj0 ?_
 refine run_s (c7 3) (c7 10) (by kernel_rfl) ?_
 obtain ⟨r1,hr1,h⟩:=bindE h
 refine run1z (c7 5) [{},{},{ c:=some (.bool r1,⟨[(0,b_0)],1⟩) }] [1,2,19] [v_0,.mp 0 0 0,.bool r1] ⟨[(0,b_0)],1⟩ _ (by kernel_rfl) (cj1 (f9_ok a0.pieces _ hr1 ⟨[(0,b_0)],1⟩)) ?_
 rcases iteE h with ⟨hc2,h⟩ | ⟨hc2,h⟩
 ·refine run_cT 19 (c7 6) (c7 9) r1 hc2 (by kernel_rfl) (by kernel_rfl) ?_
  obtain ⟨r3,hr3,h⟩:=bindE h
  refine run1z (c7 8) [{ c:=some (.bool r3,⟨[(0,b_0)],1⟩) }] [4] [.bool r3] ⟨[],1⟩ _ (by kernel_rfl) (cj1 (f10_ok  _ hr3 ⟨[(0,b_0)],1⟩)) ?_
  refine run_t (by kernel_rfl) ?_
  refine thenR ?_
  replace h:=Option.some.inj h; subst h
  exact fin_r (by kernel_rfl) rfl
 ·refine run_cF 19 (c7 6) (c7 9) r1 hc2 (by kernel_rfl) (by kernel_rfl) ?_
  refine run_k (by kernel_rfl) ?_
  refine thenN ?_
  obtain ⟨r4,hr4,h⟩:=bindE h
  rcases r4 with r4a | r4b
  ·replace h:=elimL h
   refine run1z (c7 12) [{},{ c:=some (.tup [.nilp,.i r4a],⟨[(0,b_0)],5⟩) }] [1,5,6] [v_0,.nilp,.i r4a] ⟨[],5⟩ _ (by kernel_rfl) (cj1 (callF (f11_ok a0 (.inl r4a) hr4) [] [] [0] [E_GConsort a0] ⟨[(0,b_0)],1⟩ (.tup [.nilp,.i r4a]) ⟨[(0,b_0)],5⟩ (by kernel_rfl) (.k (.c (cl_GConsort a0)) .z) (.t (.k (.c rfl) (.k (.c rfl) .z))) .z (.f rfl (by kernel_rfl) .z))) ?_
   refine run_s (c7 13) (c7 20) (by kernel_rfl) ?_
   refine run1z (c7 15) [] [1,5,27] [v_0,.nilp,.bool (decide (r4a ≠ 0))] ⟨[],5⟩ _ (by kernel_rfl) cj0 ?_
   rcases iteE h with ⟨hc5,h⟩ | ⟨hc5,h⟩
   ·refine run_cT 27 (c7 16) (c7 19) (decide (r4a ≠ 0)) hc5 (by kernel_rfl) (by kernel_rfl) ?_
    obtain ⟨r6,hr6,h⟩:=bindE h
    refine run1z (c7 18) [{ c:=some (.bool r6,⟨[],5⟩) }] [4] [.bool r6] ⟨[],5⟩ _ (by kernel_rfl) (cj1 (f10_ok  _ hr6 ⟨[],5⟩)) ?_
    refine run_t (by kernel_rfl) ?_
    refine thenR ?_
    replace h:=Option.some.inj h; subst h
    exact fin_r (by kernel_rfl) rfl
   ·cases h
  ·replace h:=elimR h
   let v_1:AV:=.ms 3 0 r4b.2.length
   let w_0:AV:=.agg [.i 0,.i 0,.i r4b.1,.bool true,v_1,.i 0,.i 0,.i 0,.ms 5 0 ([]:List GCLive).length,.fn 31 [],.ms 4 0 ([]:List GTake).length]
   let b_1:Blk:=.cells 7 (([]:List GCLive).map E_GCLive)
   let b_2:Blk:=.cells 5 (([]:List GTake).map E_GTake)
   let b_3:Blk:=.cells 3 (r4b.2.map E_GCDesk)
   let s_0:St:=⟨[(5,b_1),(4,b_2),(3,b_3),(2,.cells 11 [w_0]),(0,b_0)],6⟩
   let s_1:St:=⟨[(5,b_1),(4,b_2),(3,b_3),(2,.cells 11 [w_0])],6⟩
   refine run1z (c7 12) [{},{ c:=some (.tup [.mp 2 0 0,.i 0],s_0) }] [1,5,6] [v_0,.mp 2 0 0,.i 0] s_1 _ (by kernel_rfl) (cj1 (callF (f11_ok a0 (.inr r4b) hr4) [] [(5,4),(4,3),(3,2),(2,1)] [0] [E_GConsort a0] ⟨[(0,b_0)],1⟩ (.tup [.mp 2 0 0,.i 0]) s_0 (by kernel_rfl) (.k (.c (cl_GConsort a0)) .z) (.t (.k (.mp rfl rfl) (.k (.c rfl) .z))) .z (.d (x':=b_1) rfl (by kernel_rfl) (.cells (.r (cleanMap _ _ cl_GCLive))) (.d (x':=b_2) rfl (by kernel_rfl) (.cells (.r (cleanMap _ _ cl_GTake))) (.d (x':=b_3) rfl (by kernel_rfl) (.cells (.r (cleanMap _ _ cl_GCDesk))) (.d (x':=.cells 11 [.agg [.i 0,.i 0,.i r4b.1,.bool true,.ms 2 0 r4b.2.length,.i 0,.i 0,.i 0,.ms 4 0 ([]:List GCLive).length,.fn 31 [],.ms 3 0 ([]:List GTake).length]]) rfl (by kernel_rfl) (.cells (.k (.a (.k (.c rfl) (.k (.c rfl) (.k (.c rfl) (.k (.c rfl) (.k (.ms rfl rfl) (.k (.c rfl) (.k (.c rfl) (.k (.c rfl) (.k (.ms rfl rfl) (.k (.c rfl) (.k (.ms rfl rfl) .z)))))))))))) .z)) (.f rfl (by kernel_rfl) .z))))))) ?_
   refine run_s (c7 13) (c7 20) (by kernel_rfl) ?_
   refine run1z (c7 15) [] [1,5,27] [v_0,.mp 2 0 0,.bool false] s_1 _ (by kernel_rfl) cj0 ?_
   refine run_cF 27 (c7 16) (c7 19) false rfl (by kernel_rfl) (by kernel_rfl) ?_
   refine run_k (by kernel_rfl) ?_
   refine thenN ?_
   refine run1z (c7 22) [] [1,5,7] [v_0,.mp 2 0 0,.sl true []] s_1 _ (by kernel_rfl) cj0 ?_
   refine run_s (c7 23) (c7 140) (by kernel_rfl) ?_
   refine run1z (c7 25) [] [1,5,7,8] [v_0,.mp 2 0 0,.sl true [],.i 0] s_1 _ (by kernel_rfl) cj0 ?_
   obtain ⟨ol1x,hll1x,h⟩:=bindE h
   refine run_tq (fun (_:Unit)=>(zipE [] [])) (fun (_:Unit)=>⟨[],9⟩) (fun j=>ol1x = .inl j) (fun kl1=>?_) ?_
   ·refine run_b 0 (c7 26) (by kernel_rfl) ?_
    refine run_l (c7 27) _ hll1x (fun ((l1_h2_0,l1_h2_1,l1_h2_3,l1_h2_4,l1_h2_5,l1_h2_6,l1_h2_7,l1_h2_8,l1_h2_10,l1_7,l1_8):(Int × Int × Bool × List GCDesk × Int × Int × Int × List GCLive × List GTake × List GVoice × Int))=>(zipE [1,5,7,8] [v_0,.mp 2 0 0,.ms 8 0 l1_7.length,.i l1_8])) (fun ((l1_h2_0,l1_h2_1,l1_h2_3,l1_h2_4,l1_h2_5,l1_h2_6,l1_h2_7,l1_h2_8,l1_h2_10,l1_7,l1_8):(Int × Int × Bool × List GCDesk × Int × Int × Int × List GCLive × List GTake × List GVoice × Int))=>⟨[(8,.cells 3 (l1_7.map E_GVoice)),(7,.cells 5 (l1_h2_10.map E_GTake)),(6,.cells 7 (l1_h2_8.map E_GCLive)),(3,.cells 3 (l1_h2_4.map E_GCDesk)),(2,.cells 11 [.agg [.i l1_h2_0,.i l1_h2_1,.i r4b.1,.bool l1_h2_3,.ms 3 0 l1_h2_4.length,.i l1_h2_5,.i l1_h2_6,.i l1_h2_7,.ms 6 0 l1_h2_8.length,.fn 31 [],.ms 7 0 l1_h2_10.length]])],9⟩) [(6,5),(7,4),(8,1000000)] (by intro i e; cases e <;> exact Nat.le_of_ble_eq_true rfl) (by kernel_rfl) (mkInto (ks:=[1,5,7,8]) (ys:=[v_0,.mp 2 0 0,.sl true [],.i 0]) (by kernel_rfl) (by kernel_rfl) (.k (.c (cleanMap _ _ cl_GLaw09Call)) (.k (.mp rfl rfl) (.k (.n) (.k (.c rfl) .z)))) (.n rfl rfl rfl (.k rfl (.cells (.r (cleanMap _ _ cl_GTake))) (.k rfl (.cells (.r (cleanMap _ _ cl_GCLive))) (.k rfl (.cells (.r (cleanMap _ _ cl_GCDesk))) (.k rfl (.cells (.k (.a (.k (.c rfl) (.k (.c rfl) (.k (.c rfl) (.k (.c rfl) (.k (.ms rfl rfl) (.k (.c rfl) (.k (.c rfl) (.k (.c rfl) (.k (.ms rfl rfl) (.k (.c rfl) (.k (.ms rfl rfl) .z)))))))))))) .z)) .z)))))) ?_
    rintro ⟨l1_h2_0,l1_h2_1,l1_h2_3,l1_h2_4,l1_h2_5,l1_h2_6,l1_h2_7,l1_h2_8,l1_h2_10,l1_7,l1_8⟩ out hl1 rl1
    refine run_s (c7 28) (c7 33) (by kernel_rfl) ?_
    obtain ⟨j2_36,hj2,hl1⟩:=bindE hl1
    let v_2:AV:=.ms 7 0 l1_h2_10.length
    let v_3:AV:=.ms 3 0 l1_h2_4.length
    let v_4:AV:=.ms 6 0 l1_h2_8.length
    let v_5:AV:=.ms 8 0 l1_7.length
    let w_1:AV:=.agg [.i l1_h2_0,.i l1_h2_1,.i r4b.1,.bool l1_h2_3,v_3,.i l1_h2_5,.i l1_h2_6,.i l1_h2_7,v_4,.fn 31 [],v_2]
    let b_4:Blk:=.cells 5 (l1_h2_10.map E_GTake)
    let b_5:Blk:=.cells 7 (l1_h2_8.map E_GCLive)
    let b_6:Blk:=.cells 3 (l1_h2_4.map E_GCDesk)
    let b_7:Blk:=.cells 3 (l1_7.map E_GVoice)
    let s_2:St:=⟨[(8,b_7),(7,b_4),(6,b_5),(3,b_6),(2,.cells 11 [w_1])],9⟩
    refine run_gq (c7 30) (fun (j2_36:Bool)=>(zipE [1,5,7,8,36] [v_0,.mp 2 0 0,v_5,.i l1_8,.bool j2_36])) (fun (j2_36:Bool)=>s_2) (fun j=>j2_36 = j) (fun kj2=>?_) ?_
    ·rcases iteE hj2 with ⟨hc7,hj2⟩ | ⟨hc7,hj2⟩
     ·replace hj2:=Option.some.inj hj2; subst hj2
      exact run1z (c7 30) [{},{},{ k:=1,n:=a1.length },{},{},{},{},{ k:=1,b:=true }] [1,5,7,8,36] [v_0,.mp 2 0 0,v_5,.i l1_8,.bool (decide (l1_8 < 60))] s_2 _ (by kernel_rfl) (cjC (mapLen a1 E_GLaw09Call) (cjC (hc7) (cjC (hc7) (cj1 (hc7))))) (kj2 (decide (l1_8 < 60)) rfl)
     ·replace hj2:=Option.some.inj hj2; subst hj2
      exact run1z (c7 30) [{},{},{ k:=1,n:=a1.length },{},{},{ g:=false },{ g:=false },{ k:=1,b:=false }] [1,5,7,8,36] [v_0,.mp 2 0 0,v_5,.i l1_8,.bool false] s_2 _ (by kernel_rfl) (cjC (mapLen a1 E_GLaw09Call) (cjC (hc7) (cjC (hc7) (cj1 (hc7))))) (kj2 false rfl)
    ·rintro _ rfl
     rcases iteE hl1 with ⟨hc8,hl1⟩ | ⟨hc8,hl1⟩
     ·refine run_cT 36 (c7 31) (c7 32) j2_36 hc8 (by kernel_rfl) (by kernel_rfl) ?_
      refine run_k (by kernel_rfl) ?_
      refine thenN ?_
      refine run_s (c7 34) (c7 139) (by kernel_rfl) ?_
      refine run_b 1 (c7 35) (by kernel_rfl) ?_
      obtain ⟨y9,hy9,hl1⟩:=bindE hl1
      let b_8:Blk:=.cells 4 [E_GLaw09Call y9]
      refine run1z (c7 37) [{},{},{ k:=1,x:=E_GLaw09Call y9 }] [1,5,7,8,9] [v_0,.mp 2 0 0,v_5,.i l1_8,.mp 9 0 0] ⟨[(9,b_8),(8,b_7),(7,b_4),(6,b_5),(3,b_6),(2,.cells 11 [w_1])],10⟩ _ (by kernel_rfl) (cjC ((ixE hy9).1) (cj1 (mapGet E_GLaw09Call (ixE hy9).2))) ?_
      let w_2:AV:=.agg [.i 0,.sl true [],.sl true []]
      let s_3:St:=⟨[(10,.cells 3 [w_2]),(9,b_8),(8,b_7),(7,b_4),(6,b_5),(3,b_6),(2,.cells 11 [w_1])],11⟩
      refine run1z (c7 39) [] [1,5,7,8,9,10] [v_0,.mp 2 0 0,v_5,.i l1_8,.mp 9 0 0,.mp 10 0 0] s_3 _ (by kernel_rfl) cj0 ?_
      obtain ⟨oj3,hj3,hl1⟩:=bindE hl1
      refine run_jq (c7 40) (c7 56) (fun ((j3_h2_0,j3_h2_1,j3_h2_3,j3_h2_4,j3_h2_5,j3_h2_6,j3_h2_7,j3_h2_8,j3_h2_10,j3_h10):(Int × Int × Bool × List GCDesk × Int × Int × Int × List GCLive × List GTake × GFrame))=>(zipE [1,5,7,8,10] [v_0,.mp 2 0 0,v_5,.i l1_8,.mp 10 0 0])) (fun ((j3_h2_0,j3_h2_1,j3_h2_3,j3_h2_4,j3_h2_5,j3_h2_6,j3_h2_7,j3_h2_8,j3_h2_10,j3_h10):(Int × Int × Bool × List GCDesk × Int × Int × Int × List GCLive × List GTake × GFrame))=>⟨[(24,.cells 5 (j3_h2_10.map E_GTake)),(23,.cells 7 (j3_h2_8.map E_GCLive)),(10,.cells 3 [E_GFrame j3_h10]),(8,b_7),(3,.cells 3 (j3_h2_4.map E_GCDesk)),(2,.cells 11 [.agg [.i j3_h2_0,.i j3_h2_1,.i r4b.1,.bool j3_h2_3,.ms 3 0 j3_h2_4.length,.i j3_h2_5,.i j3_h2_6,.i j3_h2_7,.ms 23 0 j3_h2_8.length,.fn 31 [],.ms 24 0 j3_h2_10.length]])],25⟩) (fun j=>oj3 = j) (by kernel_rfl) (fun kj3=>?_) ?_
      ·obtain ⟨r10,hr10,hj3⟩:=bindE hj3
       refine run1z (c7 42) [{},{},{ c:=some (.i r10,s_3) }] [1,5,7,8,9,10,45] [v_0,.mp 2 0 0,v_5,.i l1_8,.mp 9 0 0,.mp 10 0 0,.i r10] s_3 _ (by kernel_rfl) (cj1 (f12_ok y9.what 8 _ hr10 s_3)) ?_
       refine run_b 2 (c7 43) (by kernel_rfl) ?_
       refine run1z (c7 45) [] [1,5,7,8,9,10,45,51] [v_0,.mp 2 0 0,v_5,.i l1_8,.mp 9 0 0,.mp 10 0 0,.i r10,.bool (decide (r10 = 4))] s_3 _ (by kernel_rfl) cj0 ?_
       rcases iteE hj3 with ⟨hc11,hj3⟩ | ⟨hc11,hj3⟩
       ·refine run_cT 51 (c7 46) (c7 47) (decide (r10 = 4)) hc11 (by kernel_rfl) (by kernel_rfl) ?_
        obtain ⟨r12,hr12,hj3⟩:=bindE hj3
        let v_6:AV:=.sl false (r12.1.begin.map E_GVoice)
        let v_7:AV:=.sl false (r12.1.end_.map E_GVoice)
        let v_8:AV:=.ms 16 0 r12.2.2.2.2.2.1.length
        let v_9:AV:=.ms 17 0 r12.2.2.2.2.2.2.length
        let v_10:AV:=.ms 3 0 r12.2.2.2.2.1.length
        let v_11:AV:=.bool r12.2.2.2.1
        let w_3:AV:=.agg [.i l1_h2_0,.i r12.2.2.1,.i r4b.1,v_11,v_10,.i l1_h2_5,.i l1_h2_6,.i l1_h2_7,v_8,.fn 31 [],v_9]
        let w_4:AV:=.tup [.agg [.i r12.1.time,v_6,v_7],.i r12.2.1]
        let b_9:Blk:=.cells 7 (r12.2.2.2.2.2.1.map E_GCLive)
        let b_10:Blk:=.cells 5 (r12.2.2.2.2.2.2.map E_GTake)
        let b_11:Blk:=.cells 3 (r12.2.2.2.2.1.map E_GCDesk)
        let s_4:St:=⟨[(17,b_10),(16,b_9),(10,.cells 3 [w_2]),(9,b_8),(8,b_7),(3,b_11),(2,.cells 11 [w_3])],18⟩
        refine run0z [{},{},{},{ c:=some (w_4,s_4) }] [1,5,7,8,10] [v_0,.mp 2 0 0,v_5,.i l1_8,.mp 10 0 0] ⟨[(17,b_10),(16,b_9),(10,.cells 3 [.agg [.i r12.1.time,v_6,v_7]]),(8,b_7),(3,b_11),(2,.cells 11 [w_3])],18⟩ _ (by kernel_rfl) (cj1 (callF (f15_1_ok (⟨(⟨l1_h2_0⟩:GCClock),l1_h2_1,r4b.1,l1_h2_3,l1_h2_4,l1_h2_5,l1_h2_6,l1_h2_7,(⟨l1_h2_8⟩:GCShelf_live),l1_h2_10⟩:GCPlayer) y9.a _ hr12) [(0,2),(1,3),(2,6),(3,7)] [(17,10),(16,9),(3,1),(2,0)] [10,9,8] [.mp 2 0 0,.i y9.a] s_3 (w_4) s_4 (by kernel_rfl) (.k (.mp rfl rfl) (.k (.c rfl) .z)) (.t (.k (.c (cl_GFrame (⟨r12.1.time,r12.1.begin,r12.1.end_⟩:GFrame))) (.k (.c rfl) .z))) (.k rfl (.cells (.r (cleanMap _ _ cl_GTake))) (.k rfl (.cells (.r (cleanMap _ _ cl_GCLive))) (.k rfl (.cells (.r (cleanMap _ _ cl_GCDesk))) (.k rfl (.cells (.k (.a (.k (.c rfl) (.k (.c rfl) (.k (.c rfl) (.k (.c rfl) (.k (.ms rfl rfl) (.k (.c rfl) (.k (.c rfl) (.k (.c rfl) (.k (.ms rfl rfl) (.k (.c rfl) (.k (.ms rfl rfl) .z)))))))))))) .z)) .z)))) (.d (x':=b_10) rfl (by kernel_rfl) (.cells (.r (cleanMap _ _ cl_GTake))) (.d (x':=b_9) rfl (by kernel_rfl) (.cells (.r (cleanMap _ _ cl_GCLive))) (.f rfl (by kernel_rfl) (.f rfl (by kernel_rfl) (.f rfl (by kernel_rfl) (.d (x':=b_11) rfl (by kernel_rfl) (.cells (.r (cleanMap _ _ cl_GCDesk))) (.d (x':=.cells 11 [.agg [.i l1_h2_0,.i r12.2.2.1,.i r4b.1,v_11,.ms 1 0 r12.2.2.2.2.1.length,.i l1_h2_5,.i l1_h2_6,.i l1_h2_7,.ms 9 0 r12.2.2.2.2.2.1.length,.fn 31 [],.ms 10 0 r12.2.2.2.2.2.2.length]]) rfl (by kernel_rfl) (.cells (.k (.a (.k (.c rfl) (.k (.c rfl) (.k (.c rfl) (.k (.c rfl) (.k (.ms rfl rfl) (.k (.c rfl) (.k (.c rfl) (.k (.c rfl) (.k (.ms rfl rfl) (.k (.c rfl) (.k (.ms rfl rfl) .z)))))))))))) .z)) .z))))))))) ?_
        replace hj3:=Option.some.inj hj3; subst hj3
        refine inbN ?_
        refine thenN ?_
        exact run_i 23 [(23,16),(24,17)] [1,5,7,8,10] [v_0,.mp 2 0 0,v_5,.i l1_8,.mp 10 0 0] (kj3 (l1_h2_0,r12.2.2.1,r12.2.2.2.1,r12.2.2.2.2.1,l1_h2_5,l1_h2_6,l1_h2_7,r12.2.2.2.2.2.1,r12.2.2.2.2.2.2,(⟨r12.1.time,r12.1.begin,r12.1.end_⟩:GFrame)) rfl) (by intro i e; cases e <;> exact Nat.le_of_ble_eq_true rfl) (by kernel_rfl) (by kernel_rfl) (by kernel_rfl) (.k (.c (cleanMap _ _ cl_GLaw09Call)) (.k (.mp rfl rfl) (.k (.ms rfl rfl) (.k (.c rfl) (.k (.mp rfl rfl) .z))))) (.k rfl (.cells (.r (cleanMap _ _ cl_GTake))) (.k rfl (.cells (.r (cleanMap _ _ cl_GCLive))) (.k rfl (.cells (.k (.c (cl_GFrame (⟨r12.1.time,r12.1.begin,r12.1.end_⟩:GFrame))) .z)) (.k rfl (.cells (.r (cleanMap _ _ cl_GVoice))) (.k rfl (.cells (.r (cleanMap _ _ cl_GCDesk))) (.k rfl (.cells (.k (.a (.k (.c rfl) (.k (.c rfl) (.k (.c rfl) (.k (.c rfl) (.k (.ms rfl rfl) (.k (.c rfl) (.k (.c rfl) (.k (.c rfl) (.k (.ms rfl rfl) (.k (.c rfl) (.k (.ms rfl rfl) .z)))))))))))) .z)) .z))))))
       ·refine run_cF 51 (c7 46) (c7 47) (decide (r10 = 4)) hc11 (by kernel_rfl) (by kernel_rfl) ?_
        refine run1z (c7 49) [] [1,5,7,8,9,10,45,60] [v_0,.mp 2 0 0,v_5,.i l1_8,.mp 9 0 0,.mp 10 0 0,.i r10,.bool (decide (r10 = 5))] s_3 _ (by kernel_rfl) cj0 ?_
        rcases iteE hj3 with ⟨hc13,hj3⟩ | ⟨hc13,hj3⟩
        ·refine run_cT 60 (c7 50) (c7 51) (decide (r10 = 5)) hc13 (by kernel_rfl) (by kernel_rfl) ?_
         obtain ⟨r14,hr14,hj3⟩:=bindE hj3
         let w_5:AV:=.agg [.i l1_h2_0,.i l1_h2_1,.i r4b.1,.bool l1_h2_3,v_3,.i r14.2.1,.i r14.2.2.1,.i r14.2.2.2,v_4,.fn 31 [],v_2]
         let s_5:St:=⟨[(10,.cells 3 [w_2]),(9,b_8),(8,b_7),(7,b_4),(6,b_5),(3,b_6),(2,.cells 11 [w_5])],11⟩
         refine run0z [{},{},{},{},{},{},{},{ c:=some (.i r14.1,s_5) }] [1,5,7,8,10] [v_0,.mp 2 0 0,v_5,.i l1_8,.mp 10 0 0] ⟨[(10,.cells 3 [w_2]),(8,b_7),(7,b_4),(6,b_5),(3,b_6),(2,.cells 11 [w_5])],11⟩ _ (by kernel_rfl) (cj1 (callF (f18_1_ok (⟨(⟨l1_h2_0⟩:GCClock),l1_h2_1,r4b.1,l1_h2_3,l1_h2_4,l1_h2_5,l1_h2_6,l1_h2_7,(⟨l1_h2_8⟩:GCShelf_live),l1_h2_10⟩:GCPlayer) y9.a y9.b y9.c _ hr14) [(0,2),(1,3),(2,6),(3,7)] [(7,3),(6,2),(3,1),(2,0)] [10,9,8] [.mp 2 0 0,.i y9.a,.i y9.b,.i y9.c] s_3 (.i r14.1) s_5 (by kernel_rfl) (.k (.mp rfl rfl) (.k (.c rfl) (.k (.c rfl) (.k (.c rfl) .z)))) (.c rfl) (.k rfl (.cells (.r (cleanMap _ _ cl_GTake))) (.k rfl (.cells (.r (cleanMap _ _ cl_GCLive))) (.k rfl (.cells (.r (cleanMap _ _ cl_GCDesk))) (.k rfl (.cells (.k (.a (.k (.c rfl) (.k (.c rfl) (.k (.c rfl) (.k (.c rfl) (.k (.ms rfl rfl) (.k (.c rfl) (.k (.c rfl) (.k (.c rfl) (.k (.ms rfl rfl) (.k (.c rfl) (.k (.ms rfl rfl) .z)))))))))))) .z)) .z)))) (.f rfl (by kernel_rfl) (.f rfl (by kernel_rfl) (.f rfl (by kernel_rfl) (.d (x':=b_4) rfl (by kernel_rfl) (.cells (.r (cleanMap _ _ cl_GTake))) (.d (x':=b_5) rfl (by kernel_rfl) (.cells (.r (cleanMap _ _ cl_GCLive))) (.d (x':=b_6) rfl (by kernel_rfl) (.cells (.r (cleanMap _ _ cl_GCDesk))) (.d (x':=.cells 11 [.agg [.i l1_h2_0,.i l1_h2_1,.i r4b.1,.bool l1_h2_3,.ms 1 0 l1_h2_4.length,.i r14.2.1,.i r14.2.2.1,.i r14.2.2.2,.ms 2 0 l1_h2_8.length,.fn 31 [],.ms 3 0 l1_h2_10.length]]) rfl (by kernel_rfl) (.cells (.k (.a (.k (.c rfl) (.k (.c rfl) (.k (.c rfl) (.k (.c rfl) (.k (.ms rfl rfl) (.k (.c rfl) (.k (.c rfl) (.k (.c rfl) (.k (.ms rfl rfl) (.k (.c rfl) (.k (.ms rfl rfl) .z)))))))))))) .z)) .z))))))))) ?_
         replace hj3:=Option.some.inj hj3; subst hj3
         refine inbN ?_
         refine thenN ?_
         exact run_i 23 [(23,6),(24,7)] [1,5,7,8,10] [v_0,.mp 2 0 0,v_5,.i l1_8,.mp 10 0 0] (kj3 (l1_h2_0,l1_h2_1,l1_h2_3,l1_h2_4,r14.2.1,r14.2.2.1,r14.2.2.2,l1_h2_8,l1_h2_10,(⟨0,([]:List GVoice),([]:List GVoice)⟩:GFrame)) rfl) (by intro i e; cases e <;> exact Nat.le_of_ble_eq_true rfl) (by kernel_rfl) (by kernel_rfl) (by kernel_rfl) (.k (.c (cleanMap _ _ cl_GLaw09Call)) (.k (.mp rfl rfl) (.k (.ms rfl rfl) (.k (.c rfl) (.k (.mp rfl rfl) .z))))) (.k rfl (.cells (.r (cleanMap _ _ cl_GTake))) (.k rfl (.cells (.r (cleanMap _ _ cl_GCLive))) (.k rfl (.cells (.k (.a (.k (.c rfl) (.k (.s (cleanMap ([]:List GVoice) _ cl_GVoice)) (.k (.s (cleanMap ([]:List GVoice) _ cl_GVoice)) .z)))) .z)) (.k rfl (.cells (.r (cleanMap _ _ cl_GVoice))) (.k rfl (.cells (.r (cleanMap _ _ cl_GCDesk))) (.k rfl (.cells (.k (.a (.k (.c rfl) (.k (.c rfl) (.k (.c rfl) (.k (.c rfl) (.k (.ms rfl rfl) (.k (.c rfl) (.k (.c rfl) (.k (.c rfl) (.k (.ms rfl rfl) (.k (.c rfl) (.k (.ms rfl rfl) .z)))))))))))) .z)) .z))))))
        ·refine run_cF 60 (c7 50) (c7 51) (decide (r10 = 5)) hc13 (by kernel_rfl) (by kernel_rfl) ?_
         refine run1z (c7 53) [] [1,5,7,8,9,10,70] [v_0,.mp 2 0 0,v_5,.i l1_8,.mp 9 0 0,.mp 10 0 0,.bool (decide (r10 = 6))] s_3 _ (by kernel_rfl) cj0 ?_
         rcases iteE hj3 with ⟨hc15,hj3⟩ | ⟨hc15,hj3⟩
         ·refine run_cT 70 (c7 54) (c7 55) (decide (r10 = 6)) hc15 (by kernel_rfl) (by kernel_rfl) ?_
          obtain ⟨r16,hr16,hj3⟩:=bindE hj3
          obtain ⟨r17,hr17,hj3⟩:=bindE hj3
          let v_12:AV:=.sl false (r17.1.begin.map E_GVoice)
          let v_13:AV:=.sl false (r17.1.end_.map E_GVoice)
          let v_14:AV:=.ms 18 0 r17.2.2.2.1.length
          let v_15:AV:=.ms 19 0 r17.2.2.2.2.length
          let w_6:AV:=.agg [.i l1_h2_0,.i l1_h2_1,.i r4b.1,.bool l1_h2_3,.ms 3 0 r17.2.2.1.length,.i l1_h2_5,.i l1_h2_6,.i l1_h2_7,v_14,.fn 31 [],v_15]
          let w_7:AV:=.tup [.agg [.i r17.1.time,v_12,v_13],.i r17.2.1]
          let b_12:Blk:=.cells 7 (r17.2.2.2.1.map E_GCLive)
          let b_13:Blk:=.cells 5 (r17.2.2.2.2.map E_GTake)
          let b_14:Blk:=.cells 3 (r17.2.2.1.map E_GCDesk)
          let s_6:St:=⟨[(19,b_13),(18,b_12),(10,.cells 3 [w_2]),(9,b_8),(8,b_7),(3,b_14),(2,.cells 11 [w_6])],20⟩
          refine yun0z [[],[],[1],[],[3],[3,4],[3,4,5],[0,1,2,3,4,5,6],[0,1,2,3,4,5,6,7],[0,1,2,3,4,5,6,7,8],[0,1,2,3,4,5,6,7,8],[0,1,2,3,4,5,6,7,8,9]] [.light 0 false,.light 1 false,.light 2 true,.light 3 false,.light 4 false,.heavy 5 [2],.light 6 false,.heavy 7 [],.light 8 false,.light 9 false,.light 10 false,.heavy 11 []] [{},{},{},{},{},{ c:=some (.i r16,s_3) },{},{ c:=some (w_7,s_6) }] [1,5,7,8,10] [v_0,.mp 2 0 0,v_5,.i l1_8,.mp 10 0 0] ⟨[(19,b_13),(18,b_12),(10,.cells 3 [.agg [.i r17.1.time,v_12,v_13]]),(8,b_7),(3,b_14),(2,.cells 11 [w_6])],20⟩ _ (by kernel_rfl) (cjC (f12_ok y9.b 2 _ hr16 s_3) (cjC (@Eq.refl AV (.i y9.a)) (cj1 (callF (f25_1_ok (⟨(⟨l1_h2_0⟩:GCClock),l1_h2_1,r4b.1,l1_h2_3,l1_h2_4,l1_h2_5,l1_h2_6,l1_h2_7,(⟨l1_h2_8⟩:GCShelf_live),l1_h2_10⟩:GCPlayer) y9.a (decide (r16 = 1)) _ hr17) [(0,2),(1,3),(2,6),(3,7)] [(19,12),(18,11),(3,1),(2,0)] [10,9,8] [.mp 2 0 0,.i y9.a,.bool (decide (r16 = 1))] s_3 (w_7) s_6 (by kernel_rfl) (.k (.mp rfl rfl) (.k (.c rfl) (.k (.c rfl) .z))) (.t (.k (.c (cl_GFrame (⟨r17.1.time,r17.1.begin,r17.1.end_⟩:GFrame))) (.k (.c rfl) .z))) (.k rfl (.cells (.r (cleanMap _ _ cl_GTake))) (.k rfl (.cells (.r (cleanMap _ _ cl_GCLive))) (.k rfl (.cells (.r (cleanMap _ _ cl_GCDesk))) (.k rfl (.cells (.k (.a (.k (.c rfl) (.k (.c rfl) (.k (.c rfl) (.k (.c rfl) (.k (.ms rfl rfl) (.k (.c rfl) (.k (.c rfl) (.k (.c rfl) (.k (.ms rfl rfl) (.k (.c rfl) (.k (.ms rfl rfl) .z)))))))))))) .z)) .z)))) (.d (x':=b_13) rfl (by kernel_rfl) (.cells (.r (cleanMap _ _ cl_GTake))) (.d (x':=b_12) rfl (by kernel_rfl) (.cells (.r (cleanMap _ _ cl_GCLive))) (.f rfl (by kernel_rfl) (.f rfl (by kernel_rfl) (.f rfl (by kernel_rfl) (.d (x':=b_14) rfl (by kernel_rfl) (.cells (.r (cleanMap _ _ cl_GCDesk))) (.d (x':=.cells 11 [.agg [.i l1_h2_0,.i l1_h2_1,.i r4b.1,.bool l1_h2_3,.ms 1 0 r17.2.2.1.length,.i l1_h2_5,.i l1_h2_6,.i l1_h2_7,.ms 11 0 r17.2.2.2.1.length,.fn 31 [],.ms 12 0 r17.2.2.2.2.length]]) rfl (by kernel_rfl) (.cells (.k (.a (.k (.c rfl) (.k (.c rfl) (.k (.c rfl) (.k (.c rfl) (.k (.ms rfl rfl) (.k (.c rfl) (.k (.c rfl) (.k (.c rfl) (.k (.ms rfl rfl) (.k (.c rfl) (.k (.ms rfl rfl) .z)))))))))))) .z)) .z))))))))))) ?_
          replace hj3:=Option.some.inj hj3; subst hj3
          refine inbN ?_
          refine thenN ?_
          exact run_i 23 [(23,18),(24,19)] [1,5,7,8,10] [v_0,.mp 2 0 0,v_5,.i l1_8,.mp 10 0 0] (kj3 (l1_h2_0,l1_h2_1,l1_h2_3,r17.2.2.1,l1_h2_5,l1_h2_6,l1_h2_7,r17.2.2.2.1,r17.2.2.2.2,(⟨r17.1.time,r17.1.begin,r17.1.end_⟩:GFrame)) rfl) (by intro i e; cases e <;> exact Nat.le_of_ble_eq_true rfl) (by kernel_rfl) (by kernel_rfl) (by kernel_rfl) (.k (.c (cleanMap _ _ cl_GLaw09Call)) (.k (.mp rfl rfl) (.k (.ms rfl rfl) (.k (.c rfl) (.k (.mp rfl rfl) .z))))) (.k rfl (.cells (.r (cleanMap _ _ cl_GTake))) (.k rfl (.cells (.r (cleanMap _ _ cl_GCLive))) (.k rfl (.cells (.k (.c (cl_GFrame (⟨r17.1.time,r17.1.begin,r17.1.end_⟩:GFrame))) .z)) (.k rfl (.cells (.r (cleanMap _ _ cl_GVoice))) (.k rfl (.cells (.r (cleanMap _ _ cl_GCDesk))) (.k rfl (.cells (.k (.a (.k (.c rfl) (.k (.c rfl) (.k (.c rfl) (.k (.c rfl) (.k (.ms rfl rfl) (.k (.c rfl) (.k (.c rfl) (.k (.c rfl) (.k (.ms rfl rfl) (.k (.c rfl) (.k (.ms rfl rfl) .z)))))))))))) .z)) .z))))))
         ·refine run_cF 70 (c7 54) (c7 55) (decide (r10 = 6)) hc15 (by kernel_rfl) (by kernel_rfl) ?_
          obtain ⟨r18,hr18,hj3⟩:=bindE hj3
          let v_16:AV:=.sl false (r18.1.begin.map E_GVoice)
          let v_17:AV:=.sl false (r18.1.end_.map E_GVoice)
          let v_18:AV:=.ms 21 0 r18.2.2.2.2.2.2.2.1.length
          let v_19:AV:=.ms 22 0 r18.2.2.2.2.2.2.2.2.length
          let v_20:AV:=.ms 3 0 r18.2.2.2.2.2.1.length
          let v_21:AV:=.i r18.2.2.2.2.2.2.1
          let v_22:AV:=.bool r18.2.2.2.2.1
          let w_8:AV:=.agg [.i r18.2.2.1,.i r18.2.2.2.1,.i r4b.1,v_22,v_20,.i l1_h2_5,.i l1_h2_6,v_21,v_18,.fn 31 [],v_19]
          let w_9:AV:=.tup [.agg [.i r18.1.time,v_16,v_17],.i r18.2.1]
          let b_15:Blk:=.cells 7 (r18.2.2.2.2.2.2.2.1.map E_GCLive)
          let b_16:Blk:=.cells 5 (r18.2.2.2.2.2.2.2.2.map E_GTake)
          let b_17:Blk:=.cells 3 (r18.2.2.2.2.2.1.map E_GCDesk)
          let s_7:St:=⟨[(22,b_16),(21,b_15),(10,.cells 3 [w_2]),(9,b_8),(8,b_7),(3,b_17),(2,.cells 11 [w_8])],23⟩
          refine run0z [{},{ c:=some (w_9,s_7) }] [1,5,7,8,10] [v_0,.mp 2 0 0,v_5,.i l1_8,.mp 10 0 0] ⟨[(22,b_16),(21,b_15),(10,.cells 3 [.agg [.i r18.1.time,v_16,v_17]]),(8,b_7),(3,b_17),(2,.cells 11 [w_8])],23⟩ _ (by kernel_rfl) (cj1 (callF (f13_1_ok (⟨(⟨l1_h2_0⟩:GCClock),l1_h2_1,r4b.1,l1_h2_3,l1_h2_4,l1_h2_5,l1_h2_6,l1_h2_7,(⟨l1_h2_8⟩:GCShelf_live),l1_h2_10⟩:GCPlayer) _ hr18) [(0,2),(1,3),(2,6),(3,7)] [(22,15),(21,14),(3,1),(2,0)] [10,9,8] [.mp 2 0 0] s_3 (w_9) s_7 (by kernel_rfl) (.k (.mp rfl rfl) .z) (.t (.k (.c (cl_GFrame (⟨r18.1.time,r18.1.begin,r18.1.end_⟩:GFrame))) (.k (.c rfl) .z))) (.k rfl (.cells (.r (cleanMap _ _ cl_GTake))) (.k rfl (.cells (.r (cleanMap _ _ cl_GCLive))) (.k rfl (.cells (.r (cleanMap _ _ cl_GCDesk))) (.k rfl (.cells (.k (.a (.k (.c rfl) (.k (.c rfl) (.k (.c rfl) (.k (.c rfl) (.k (.ms rfl rfl) (.k (.c rfl) (.k (.c rfl) (.k (.c rfl) (.k (.ms rfl rfl) (.k (.c rfl) (.k (.ms rfl rfl) .z)))))))))))) .z)) .z)))) (.d (x':=b_16) rfl (by kernel_rfl) (.cells (.r (cleanMap _ _ cl_GTake))) (.d (x':=b_15) rfl (by kernel_rfl) (.cells (.r (cleanMap _ _ cl_GCLive))) (.f rfl (by kernel_rfl) (.f rfl (by kernel_rfl) (.f rfl (by kernel_rfl) (.d (x':=b_17) rfl (by kernel_rfl) (.cells (.r (cleanMap _ _ cl_GCDesk))) (.d (x':=.cells 11 [.agg [.i r18.2.2.1,.i r18.2.2.2.1,.i r4b.1,v_22,.ms 1 0 r18.2.2.2.2.2.1.length,.i l1_h2_5,.i l1_h2_6,v_21,.ms 14 0 r18.2.2.2.2.2.2.2.1.length,.fn 31 [],.ms 15 0 r18.2.2.2.2.2.2.2.2.length]]) rfl (by kernel_rfl) (.cells (.k (.a (.k (.c rfl) (.k (.c rfl) (.k (.c rfl) (.k (.c rfl) (.k (.ms rfl rfl) (.k (.c rfl) (.k (.c rfl) (.k (.c rfl) (.k (.ms rfl rfl) (.k (.c rfl) (.k (.ms rfl rfl) .z)))))))))))) .z)) .z))))))))) ?_
          replace hj3:=Option.some.inj hj3; subst hj3
          refine inbN ?_
          refine thenN ?_
          exact run_i 23 [(23,21),(24,22)] [1,5,7,8,10] [v_0,.mp 2 0 0,v_5,.i l1_8,.mp 10 0 0] (kj3 (r18.2.2.1,r18.2.2.2.1,r18.2.2.2.2.1,r18.2.2.2.2.2.1,l1_h2_5,l1_h2_6,r18.2.2.2.2.2.2.1,r18.2.2.2.2.2.2.2.1,r18.2.2.2.2.2.2.2.2,(⟨r18.1.time,r18.1.begin,r18.1.end_⟩:GFrame)) rfl) (by intro i e; cases e <;> exact Nat.le_of_ble_eq_true rfl) (by kernel_rfl) (by kernel_rfl) (by kernel_rfl) (.k (.c (cleanMap _ _ cl_GLaw09Call)) (.k (.mp rfl rfl) (.k (.ms rfl rfl) (.k (.c rfl) (.k (.mp rfl rfl) .z))))) (.k rfl (.cells (.r (cleanMap _ _ cl_GTake))) (.k rfl (.cells (.r (cleanMap _ _ cl_GCLive))) (.k rfl (.cells (.k (.c (cl_GFrame (⟨r18.1.time,r18.1.begin,r18.1.end_⟩:GFrame))) .z)) (.k rfl (.cells (.r (cleanMap _ _ cl_GVoice))) (.k rfl (.cells (.r (cleanMap _ _ cl_GCDesk))) (.k rfl (.cells (.k (.a (.k (.c rfl) (.k (.c rfl) (.k (.c rfl) (.k (.c rfl) (.k (.ms rfl rfl) (.k (.c rfl) (.k (.c rfl) (.k (.c rfl) (.k (.ms rfl rfl) (.k (.c rfl) (.k (.ms rfl rfl) .z)))))))))))) .z)) .z))))))
      ·rintro ⟨j3_h2_0,j3_h2_1,j3_h2_3,j3_h2_4,j3_h2_5,j3_h2_6,j3_h2_7,j3_h2_8,j3_h2_10,j3_h10⟩ rfl
       refine run_s (c7 57) (c7 94) (by kernel_rfl) ?_
       let v_23:AV:=.sl false (j3_h10.end_.map E_GVoice)
       let v_24:AV:=.i (j3_h10.end_.length:Int)
       let v_25:AV:=.ms 24 0 j3_h2_10.length
       let v_26:AV:=.ms 23 0 j3_h2_8.length
       let v_27:AV:=.ms 3 0 j3_h2_4.length
       let w_10:AV:=.agg [.i j3_h2_0,.i j3_h2_1,.i r4b.1,.bool j3_h2_3,v_27,.i j3_h2_5,.i j3_h2_6,.i j3_h2_7,v_26,.fn 31 [],v_25]
       let b_18:Blk:=.cells 5 (j3_h2_10.map E_GTake)
       let b_19:Blk:=.cells 7 (j3_h2_8.map E_GCLive)
       let b_20:Blk:=.cells 3 (j3_h2_4.map E_GCDesk)
       let b_21:Blk:=.cells 3 [E_GFrame j3_h10]
       let b_22:Blk:=.cells 11 [w_10]
       refine run1z (c7 59) [{},{},{ k:=1,n:=j3_h10.end_.length }] [1,5,7,8,10,84,85,86] [v_0,.mp 2 0 0,v_5,.i l1_8,.mp 10 0 0,v_23,v_24,.i 0] ⟨[(24,b_18),(23,b_19),(10,b_21),(8,b_7),(3,b_20),(2,b_22)],25⟩ _ (by kernel_rfl) (cj1 (mapLen j3_h10.end_ E_GVoice)) ?_
       obtain ⟨ol4x,hll4x,hl1⟩:=bindE hl1
       refine run_tq (fun (l4x_7:(List GVoice))=>(zipE [1,5,7,8,10] [v_0,.mp 2 0 0,.ms 25 0 l4x_7.length,.i l1_8,.mp 10 0 0])) (fun (l4x_7:(List GVoice))=>⟨[(25,.cells 3 (l4x_7.map E_GVoice)),(24,b_18),(23,b_19),(10,b_21),(3,b_20),(2,b_22)],26⟩) (fun j=>ol4x = .inl j) (fun kl4=>?_) ?_
       ·refine run_b 3 (c7 60) (by kernel_rfl) ?_
        refine run_l (c7 61) _ hll4x (fun ((l4_7,l4_86):(List GVoice × Int))=>(zipE [1,5,7,8,10,84,85,86] [v_0,.mp 2 0 0,.ms 25 0 l4_7.length,.i l1_8,.mp 10 0 0,v_23,v_24,.i l4_86])) (fun ((l4_7,l4_86):(List GVoice × Int))=>⟨[(25,.cells 3 (l4_7.map E_GVoice)),(24,b_18),(23,b_19),(10,b_21),(3,b_20),(2,b_22)],26⟩) [(25,8)] (by intro i e; cases e <;> exact Nat.le_of_ble_eq_true rfl) (by kernel_rfl) (mkInto (ks:=[1,5,7,8,10,84,85,86]) (ys:=[v_0,.mp 2 0 0,v_5,.i l1_8,.mp 10 0 0,v_23,v_24,.i 0]) (by kernel_rfl) (by kernel_rfl) (.k (.c (cleanMap _ _ cl_GLaw09Call)) (.k (.mp rfl rfl) (.k (.ms rfl rfl) (.k (.c rfl) (.k (.mp rfl rfl) (.k (.c (cleanMap _ _ cl_GVoice)) (.k (.c rfl) (.k (.c rfl) .z)))))))) (.k rfl (.cells (.r (cleanMap _ _ cl_GVoice))) (.k rfl (.cells (.r (cleanMap _ _ cl_GTake))) (.k rfl (.cells (.r (cleanMap _ _ cl_GCLive))) (.k rfl (.cells (.k (.c (cl_GFrame j3_h10)) .z)) (.k rfl (.cells (.r (cleanMap _ _ cl_GCDesk))) (.k rfl (.cells (.k (.a (.k (.c rfl) (.k (.c rfl) (.k (.c rfl) (.k (.c rfl) (.k (.ms rfl rfl) (.k (.c rfl) (.k (.c rfl) (.k (.c rfl) (.k (.ms rfl rfl) (.k (.c rfl) (.k (.ms rfl rfl) .z)))))))))))) .z)) .z))))))) ?_
        rintro ⟨l4_7,l4_86⟩ out hl4 rl4
        let v_28:AV:=.ms 25 0 l4_7.length
        let b_23:Blk:=.cells 3 (l4_7.map E_GVoice)
        let s_8:St:=⟨[(25,b_23),(24,b_18),(23,b_19),(10,b_21),(3,b_20),(2,b_22)],26⟩
        refine run1z (c7 63) [] [1,5,7,8,10,84,85,86,87] [v_0,.mp 2 0 0,v_28,.i l1_8,.mp 10 0 0,v_23,v_24,.i l4_86,.bool (decide (l4_86 < (j3_h10.end_.length:Int)))] s_8 _ (by kernel_rfl) cj0 ?_
        refine run_s (c7 64) (c7 67) (by kernel_rfl) ?_
        rcases iteE hl4 with ⟨hc19,hl4⟩ | ⟨hc19,hl4⟩
        ·refine run_cT 87 (c7 65) (c7 66) (decide (l4_86 < (j3_h10.end_.length:Int))) hc19 (by kernel_rfl) (by kernel_rfl) ?_
         refine run_k (by kernel_rfl) ?_
         refine thenN ?_
         refine run_s (c7 68) (c7 93) (by kernel_rfl) ?_
         refine run_b 4 (c7 69) (by kernel_rfl) ?_
         obtain ⟨y20,hy20,hl4⟩:=bindE hl4
         let b_24:Blk:=.cells 3 [E_GVoice y20]
         let s_9:St:=⟨[(26,b_24),(25,b_23),(24,b_18),(23,b_19),(10,b_21),(3,b_20),(2,b_22)],27⟩
         refine run1z (c7 71) [{ k:=1,x:=E_GVoice y20 }] [1,5,7,8,10,12,84,85,86] [v_0,.mp 2 0 0,v_28,.i l1_8,.mp 10 0 0,.mp 26 0 0,v_23,v_24,.i l4_86] s_9 _ (by kernel_rfl) (cjC ((ixE hy20).1) (cj1 (mapGet E_GVoice (ixE hy20).2))) ?_
         refine run1z (c7 73) [] [1,5,7,8,10,12,13,84,85,86] [v_0,.mp 2 0 0,v_28,.i l1_8,.mp 10 0 0,.mp 26 0 0,.i 0,v_23,v_24,.i l4_86] s_9 _ (by kernel_rfl) cj0 ?_
         obtain ⟨l5x_13,hll5x,hl4⟩:=bindE hl4
         let s_10:St:=⟨[(25,b_23),(24,b_18),(23,b_19),(10,b_21),(3,b_20),(2,b_22)],27⟩
         refine run_jq (c7 74) (c7 84) (fun (l5x_13:Int)=>(zipE [1,5,7,8,10,13,84,85,86] [v_0,.mp 2 0 0,v_28,.i l1_8,.mp 10 0 0,.i l5x_13,v_23,v_24,.i l4_86])) (fun (l5x_13:Int)=>s_10) (fun j=>l5x_13 = j) (by kernel_rfl) (fun kl5=>?_) ?_
         ·refine run_b 5 (c7 75) (by kernel_rfl) ?_
          refine run_l (c7 76) _ hll5x (fun (l5_13:Int)=>(zipE [1,5,7,8,10,12,13,84,85,86] [v_0,.mp 2 0 0,v_28,.i l1_8,.mp 10 0 0,.mp 26 0 0,.i l5_13,v_23,v_24,.i l4_86])) (fun (l5_13:Int)=>s_9) [] (by intro i e; cases e <;> exact Nat.le_of_ble_eq_true rfl) (by kernel_rfl) (mkInto (ks:=[1,5,7,8,10,12,13,84,85,86]) (ys:=[v_0,.mp 2 0 0,v_28,.i l1_8,.mp 10 0 0,.mp 26 0 0,.i 0,v_23,v_24,.i l4_86]) (by kernel_rfl) (by kernel_rfl) (.k (.c (cleanMap _ _ cl_GLaw09Call)) (.k (.mp rfl rfl) (.k (.ms rfl rfl) (.k (.c rfl) (.k (.mp rfl rfl) (.k (.mp rfl rfl) (.k (.c rfl) (.k (.c (cleanMap _ _ cl_GVoice)) (.k (.c rfl) (.k (.c rfl) .z)))))))))) (.k rfl (.cells (.k (.c (cl_GVoice y20)) .z)) (.k rfl (.cells (.r (cleanMap _ _ cl_GVoice))) (.k rfl (.cells (.r (cleanMap _ _ cl_GTake))) (.k rfl (.cells (.r (cleanMap _ _ cl_GCLive))) (.k rfl (.cells (.k (.c (cl_GFrame j3_h10)) .z)) (.k rfl (.cells (.r (cleanMap _ _ cl_GCDesk))) (.k rfl (.cells (.k (.a (.k (.c rfl) (.k (.c rfl) (.k (.c rfl) (.k (.c rfl) (.k (.ms rfl rfl) (.k (.c rfl) (.k (.c rfl) (.k (.c rfl) (.k (.ms rfl rfl) (.k (.c rfl) (.k (.ms rfl rfl) .z)))))))))))) .z)) .z)))))))) ?_
          rintro l5_13 out hl5 rl5
          refine run_s (c7 77) (c7 82) (by kernel_rfl) ?_
          obtain ⟨j6_101,hj6,hl5⟩:=bindE hl5
          refine run_gq (c7 79) (fun (j6_101:Bool)=>(zipE [1,5,7,8,10,12,13,84,85,86,101] [v_0,.mp 2 0 0,v_28,.i l1_8,.mp 10 0 0,.mp 26 0 0,.i l5_13,v_23,v_24,.i l4_86,.bool j6_101])) (fun (j6_101:Bool)=>s_9) (fun j=>j6_101 = j) (fun kj6=>?_) ?_
          ·rcases iteE hj6 with ⟨hc21,hj6⟩ | ⟨hc21,hj6⟩
           ·obtain ⟨y22,hy22,hj6⟩:=bindE hj6
            replace hj6:=Option.some.inj hj6; subst hj6
            exact yun1z (c7 79) [[],[],[1],[0,1,2],[0,1,2,3],[0,1,2,3,4],[0,1,2,3,4],[0,1,2,3,4,5,6],[0,1,2,3,4,5,6,7],[0,1,2,3,4],[0,1,2,3,4,5,6,7,8,9],[0,1,2,3,4,5,6,7,8,9,10]] [.light 0 false,.light 1 false,.light 2 false,.light 3 false,.light 4 false,.light 5 false,.light 6 false,.light 7 false,.light 8 false,.light 9 false,.light 10 false,.light 11 false] [{},{},{},{},{},{},{},{ k:=1,n:=l5_13.toNat },{ k:=1,x:=E_GVoice y22 }] [1,5,7,8,10,12,13,84,85,86,101] [v_0,.mp 2 0 0,v_28,.i l1_8,.mp 10 0 0,.mp 26 0 0,.i l5_13,v_23,v_24,.i l4_86,.bool (!(eq_GVoice y22 y20))] s_9 _ (by kernel_rfl) (cjC (hc21) (cjC (Eq.refl true) (cjC (Eq.refl true) (cjC ((ixE hy22).1) (cjC (ixLt hy22) (cjC (Nat.zero_add l5_13.toNat) (cjC (Eq.refl true) (cjC (mapGet E_GVoice (ixE hy22).2) (cjC (Eq.refl true) (cj1 (Eq.refl true))))))))))) (kj6 (!(eq_GVoice y22 y20)) rfl)
           ·replace hj6:=Option.some.inj hj6; subst hj6
            exact yun1z (c7 79) [[],[],[1],[0,1,2],[0,1,2,3],[0,1,2,3,4],[0,1,2,3,4],[0,1,2,3,4,5,6],[0,1,2,3,4,5,6,7],[0,1,2,3,4],[0,1,2,3,4,5,6,7,8,9],[0,1,2,3,4,5,6,7,8,9,10]] [.light 0 false,.light 1 false,.light 2 false,.light 3 false,.light 4 false,.light 5 false,.light 6 false,.light 7 false,.light 8 false,.light 9 false,.light 10 false,.light 11 false] [{},{},{},{},{},{ g:=false },{ g:=false },{ g:=false },{ g:=false },{ g:=false },{ g:=false }] [1,5,7,8,10,12,13,84,85,86,101] [v_0,.mp 2 0 0,v_28,.i l1_8,.mp 10 0 0,.mp 26 0 0,.i l5_13,v_23,v_24,.i l4_86,.bool false] s_9 _ (by kernel_rfl) (cjC (hc21) (cjC (Eq.refl false) (cjC (Eq.refl false) (cjC (Eq.refl false) (cjC (Eq.refl false) (cj1 (Eq.refl false))))))) (kj6 false rfl)
          ·rintro _ rfl
           rcases iteE hl5 with ⟨hc23,hl5⟩ | ⟨hc23,hl5⟩
           ·refine run_cT 101 (c7 80) (c7 81) j6_101 hc23 (by kernel_rfl) (by kernel_rfl) ?_
            refine run_k (by kernel_rfl) ?_
            refine thenN ?_
            refine run_b 6 (c7 83) (by kernel_rfl) ?_
            refine run0z [] [1,5,7,8,10,12,13,84,85,86] [v_0,.mp 2 0 0,v_28,.i l1_8,.mp 10 0 0,.mp 26 0 0,.i (wr (l5_13 + 1)),v_23,v_24,.i l4_86] s_9 _ (by kernel_rfl) cj0 ?_
            replace hl5:=Option.some.inj hl5; subst hl5
            refine inbN ?_
            exact ⟨_,rfl,pi [],mkInto (ks:=[1,5,7,8,10,12,13,84,85,86]) (ys:=[v_0,.mp 2 0 0,v_28,.i l1_8,.mp 10 0 0,.mp 26 0 0,.i (wr (l5_13 + 1)),v_23,v_24,.i l4_86]) (by kernel_rfl) (by kernel_rfl) (.k (.c (cleanMap _ _ cl_GLaw09Call)) (.k (.mp rfl rfl) (.k (.ms rfl rfl) (.k (.c rfl) (.k (.mp rfl rfl) (.k (.mp rfl rfl) (.k (.c rfl) (.k (.c (cleanMap _ _ cl_GVoice)) (.k (.c rfl) (.k (.c rfl) .z)))))))))) (.k rfl (.cells (.k (.c (cl_GVoice y20)) .z)) (.k rfl (.cells (.r (cleanMap _ _ cl_GVoice))) (.k rfl (.cells (.r (cleanMap _ _ cl_GTake))) (.k rfl (.cells (.r (cleanMap _ _ cl_GCLive))) (.k rfl (.cells (.k (.c (cl_GFrame j3_h10)) .z)) (.k rfl (.cells (.r (cleanMap _ _ cl_GCDesk))) (.k rfl (.cells (.k (.a (.k (.c rfl) (.k (.c rfl) (.k (.c rfl) (.k (.c rfl) (.k (.ms rfl rfl) (.k (.c rfl) (.k (.c rfl) (.k (.c rfl) (.k (.ms rfl rfl) (.k (.c rfl) (.k (.ms rfl rfl) .z)))))))))))) .z)) .z)))))))⟩
           ·refine run_cF 101 (c7 80) (c7 81) j6_101 hc23 (by kernel_rfl) (by kernel_rfl) ?_
            replace hl5:=Option.some.inj hl5; subst hl5
            have hr:=rl5 _ rfl
            subst hr
            refine awp_p [1,5,7,8,10,13,84,85,86] [25,24,23,10,3,2] (zipE [1,5,7,8,10,13,84,85,86] [v_0,.mp 2 0 0,v_28,.i l1_8,.mp 10 0 0,.i l5_13,v_23,v_24,.i l4_86]) s_10 (by kernel_rfl) (?_)
            refine run_e 5 (by kernel_rfl) ?_
            refine thenE ?_
            refine ⟨⟨_,rfl⟩,?_⟩
            refine inbE ?_
            refine thenN ?_
            exact kl5 l5_13 rfl
         ·rintro _ rfl
          refine run_s (c7 85) (c7 92) (by kernel_rfl) ?_
          refine run1z (c7 87) [] [1,5,7,8,10,13,84,85,86,107] [v_0,.mp 2 0 0,v_28,.i l1_8,.mp 10 0 0,.i l5x_13,v_23,v_24,.i l4_86,.bool (decide (l5x_13 = (l4_7.length:Int)))] s_10 _ (by kernel_rfl) cj0 ?_
          rcases iteE hl4 with ⟨hc24,hl4⟩ | ⟨hc24,hl4⟩
          ·refine run_cT 107 (c7 88) (c7 91) (decide (l5x_13 = (l4_7.length:Int))) hc24 (by kernel_rfl) (by kernel_rfl) ?_
           refine run1z (c7 90) [] [4] [.bool false] ⟨[],27⟩ _ (by kernel_rfl) cj0 ?_
           replace hl4:=Option.some.inj hl4; subst hl4
           have hr:=rl4 _ rfl
           subst hr
           replace hl1:=elimR hl1
           replace hl1:=Option.some.inj hl1; subst hl1
           have hr:=rl1 _ rfl
           subst hr
           replace h:=elimR h
           refine run_t (by kernel_rfl) ?_
           refine thenR ?_
           refine inbR ?_
           refine thenR ?_
           refine ⟨⟨_,rfl⟩,?_⟩
           refine inbR ?_
           refine thenR ?_
           refine inbR ?_
           refine thenR ?_
           refine ⟨⟨_,rfl⟩,?_⟩
           refine inbR ?_
           refine thenR ?_
           replace h:=Option.some.inj h; subst h
           exact fin_r (by kernel_rfl) rfl
          ·refine run_cF 107 (c7 88) (c7 91) (decide (l5x_13 = (l4_7.length:Int))) hc24 (by kernel_rfl) (by kernel_rfl) ?_
           refine run_k (by kernel_rfl) ?_
           refine thenN ?_
           obtain ⟨j7_7,hj7,hl4⟩:=bindE hl4
           refine run_tq (fun (j7_7:(List GVoice))=>(zipE [1,5,7,8,10,84,85,86] [v_0,.mp 2 0 0,.ms 28 0 j7_7.length,.i l1_8,.mp 10 0 0,v_23,v_24,.i l4_86])) (fun (j7_7:(List GVoice))=>⟨[(28,.cells 3 (j7_7.map E_GVoice)),(24,b_18),(23,b_19),(10,b_21),(3,b_20),(2,b_22)],29⟩) (fun j=>j7_7 = j) (fun kj7=>?_) ?_
           ·obtain ⟨hn25,hj7⟩:=needE hj7
            obtain ⟨hn26,hj7⟩:=needE hj7
            obtain ⟨hn27,hj7⟩:=needE hj7
            obtain ⟨hn28,hj7⟩:=needE hj7
            rcases iteE hj7 with ⟨hc30,hj7⟩ | ⟨hc30,hj7⟩
            ·obtain ⟨hn31,hj7⟩:=needE hj7
             replace hj7:=Option.some.inj hj7; subst hj7
             refine awp_post (by intro i e; cases e <;> exact Nat.le_of_ble_eq_true rfl) ?_
             refine awp_post (by intro i e; cases e <;> exact Nat.le_of_ble_eq_true rfl) ?_
             refine yun0z [[],[],[],[0,1,2],[],[],[5],[4,5,6],[0,1,2,3,4,5,6,7],[0,1,2,3,4,5,6,7,8]] [.light 0 false,.light 1 false,.light 2 false,.light 3 false,.light 4 false,.light 5 false,.light 6 false,.light 7 false,.heavy 8 [],.light 9 false] [{},{},{},{ k:=2,n:=0,m:=l5x_13.toNat,q:=0,p:=l5x_13.toNat,u:=0,r:=l5x_13.toNat },{},{},{},{ k:=1,n:=(wr (l5x_13 + 1)).toNat,m:=l4_7.length,q:=(wr (l5x_13 + 1)).toNat,p:=(l4_7.length - (wr (l5x_13 + 1)).toNat) },{ k:=2 }] [1,5,7,8,10,84,85,86] [v_0,.mp 2 0 0,.ms 25 0 l5x_13.toNat,.i l1_8,.mp 10 0 0,v_23,v_24,.i l4_86] s_10 _ (by kernel_rfl) (cjC (Nat.zero_le l5x_13.toNat) (cjC (Nat.le_refl l5x_13.toNat) (cjC (hn26) (cjC (Nat.zero_add 0) (cjC (Nat.sub_zero l5x_13.toNat) (cjC (Eq.refl (0:Nat)) (cjC (hn25) (cjC (Eq.refl (l5x_13.toNat)) (cjC (hn25) (cjC (Eq.refl (l5x_13.toNat)) (cjC (hn28) (cjC (Nat.le_refl l4_7.length) (cjC (Nat.zero_add (wr (l5x_13 + 1)).toNat) (cjC (Eq.refl (l4_7.length - (wr (l5x_13 + 1)).toNat)) (cjC (hn27) (cjC (Eq.refl ((wr (l5x_13 + 1)).toNat)) (cjC (Eq.refl (l4_7.length:Nat)) (cjC (mapNilP E_GVoice (of_decide_eq_true hc30)) (cj1 (leMap E_GVoice hn31)))))))))))))))))))) ?_
             refine ⟨27,pi [],(zipE [1,5,7,8,10,84,85,86] [v_0,.mp 2 0 0,.ms 25 0 (l4_7.take l5x_13.toNat).length,.i l1_8,.mp 10 0 0,v_23,v_24,.i l4_86]),⟨[(25,.cells 3 ((l4_7.take l5x_13.toNat).map E_GVoice)),(24,b_18),(23,b_19),(10,b_21),(3,b_20),(2,b_22)],27⟩,Nat.le_of_ble_eq_true rfl,mkInto (ks:=[1,5,7,8,10,84,85,86]) (ys:=[v_0,.mp 2 0 0,.ms 25 0 l5x_13.toNat,.i l1_8,.mp 10 0 0,v_23,v_24,.i l4_86]) (by kernel_rfl) (by kernel_rfl) (.k (.c (cleanMap _ _ cl_GLaw09Call)) (.k (.mp rfl rfl) (.k (.e rfl rfl (by simp; omega)) (.k (.c rfl) (.k (.mp rfl rfl) (.k (.c (cleanMap _ _ cl_GVoice)) (.k (.c rfl) (.k (.c rfl) .z)))))))) (.k rfl (cutT 3 l4_7 l5x_13.toNat cl_GVoice) (.k rfl (.cells (.r (cleanMap _ _ cl_GTake))) (.k rfl (.cells (.r (cleanMap _ _ cl_GCLive))) (.k rfl (.cells (.k (.c (cl_GFrame j3_h10)) .z)) (.k rfl (.cells (.r (cleanMap _ _ cl_GCDesk))) (.k rfl (.cells (.k (.a (.k (.c rfl) (.k (.c rfl) (.k (.c rfl) (.k (.c rfl) (.k (.ms rfl rfl) (.k (.c rfl) (.k (.c rfl) (.k (.c rfl) (.k (.ms rfl rfl) (.k (.c rfl) (.k (.ms rfl rfl) .z)))))))))))) .z)) .z)))))),?_⟩
             exact ⟨28,pi [(28,25)],_,_,Nat.le_of_ble_eq_true rfl,mkInto (ks:=[1,5,7,8,10,84,85,86]) (ys:=[v_0,.mp 2 0 0,.ms 25 0 (l4_7.take l5x_13.toNat).length,.i l1_8,.mp 10 0 0,v_23,v_24,.i l4_86]) (by kernel_rfl) (by kernel_rfl) (.k (.c (cleanMap _ _ cl_GLaw09Call)) (.k (.mp rfl rfl) (.k (.ms rfl rfl) (.k (.c rfl) (.k (.mp rfl rfl) (.k (.c (cleanMap _ _ cl_GVoice)) (.k (.c rfl) (.k (.c rfl) .z)))))))) (.k rfl (.cells (.r (cleanMap _ _ cl_GVoice))) (.k rfl (.cells (.r (cleanMap _ _ cl_GTake))) (.k rfl (.cells (.r (cleanMap _ _ cl_GCLive))) (.k rfl (.cells (.k (.c (cl_GFrame j3_h10)) .z)) (.k rfl (.cells (.r (cleanMap _ _ cl_GCDesk))) (.k rfl (.cells (.k (.a (.k (.c rfl) (.k (.c rfl) (.k (.c rfl) (.k (.c rfl) (.k (.ms rfl rfl) (.k (.c rfl) (.k (.c rfl) (.k (.c rfl) (.k (.ms rfl rfl) (.k (.c rfl) (.k (.ms rfl rfl) .z)))))))))))) .z)) .z)))))),kj7 (l4_7.take l5x_13.toNat) rfl⟩
            ·obtain ⟨hn32,hj7⟩:=needE hj7
             obtain ⟨hn33,hj7⟩:=needE hj7
             obtain ⟨hn34,hj7⟩:=needE hj7
             replace hj7:=Option.some.inj hj7; subst hj7
             refine awp_post (by intro i e; cases e <;> exact Nat.le_of_ble_eq_true rfl) ?_
             let b_25:Blk:=.cells 3 ((((l4_7.drop 0).take l5x_13.toNat) ++ ((l4_7.drop (wr (l5x_13 + 1)).toNat).take (l4_7.length - (wr (l5x_13 + 1)).toNat))).map E_GVoice)
             exact yun0z [[],[],[],[0,1,2],[],[],[5],[4,5,6],[0,1,2,3,4,5,6,7],[0,1,2,3,4,5,6,7,8]] [.light 0 false,.light 1 false,.light 2 false,.light 3 false,.light 4 false,.light 5 false,.light 6 false,.light 7 false,.heavy 8 [],.light 9 false] [{},{},{},{ k:=2,n:=0,m:=l5x_13.toNat,q:=0,p:=l5x_13.toNat,u:=0,r:=l5x_13.toNat },{},{},{},{ k:=1,n:=(wr (l5x_13 + 1)).toNat,m:=l4_7.length,q:=(wr (l5x_13 + 1)).toNat,p:=(l4_7.length - (wr (l5x_13 + 1)).toNat) },{ k:=1,n:=(((l4_7.drop 0).take l5x_13.toNat) ++ ((l4_7.drop (wr (l5x_13 + 1)).toNat).take (l4_7.length - (wr (l5x_13 + 1)).toNat))).length,l:=(((l4_7.drop 0).take l5x_13.toNat) ++ ((l4_7.drop (wr (l5x_13 + 1)).toNat).take (l4_7.length - (wr (l5x_13 + 1)).toNat))).map E_GVoice }] [1,5,7,8,10,84,85,86] [v_0,.mp 2 0 0,.ms 27 0 (((l4_7.drop 0).take l5x_13.toNat) ++ ((l4_7.drop (wr (l5x_13 + 1)).toNat).take (l4_7.length - (wr (l5x_13 + 1)).toNat))).length,.i l1_8,.mp 10 0 0,v_23,v_24,.i l4_86] ⟨[(27,b_25),(24,b_18),(23,b_19),(10,b_21),(3,b_20),(2,b_22)],28⟩ _ (by kernel_rfl) (cjC (Nat.zero_le l5x_13.toNat) (cjC (Nat.le_refl l5x_13.toNat) (cjC (hn26) (cjC (Nat.zero_add 0) (cjC (Nat.sub_zero l5x_13.toNat) (cjC (Eq.refl (0:Nat)) (cjC (hn25) (cjC (Eq.refl (l5x_13.toNat)) (cjC (hn25) (cjC (Eq.refl (l5x_13.toNat)) (cjC (hn28) (cjC (Nat.le_refl l4_7.length) (cjC (Nat.zero_add (wr (l5x_13 + 1)).toNat) (cjC (Eq.refl (l4_7.length - (wr (l5x_13 + 1)).toNat)) (cjC (hn27) (cjC (Eq.refl ((wr (l5x_13 + 1)).toNat)) (cjC (Eq.refl (l4_7.length:Nat)) (cjC (mapNeP E_GVoice (of_decide_eq_false hc30)) (cjC (leMap E_GVoice hn33) (cjC (bndPP l4_7 (wr (l5x_13 + 1)).toNat (l4_7.length - (wr (l5x_13 + 1)).toNat) E_GVoice hn34) (cjC (lenPP l4_7 0 l5x_13.toNat l4_7 (wr (l5x_13 + 1)).toNat (l4_7.length - (wr (l5x_13 + 1)).toNat) E_GVoice hn33) (cjC (appPP l4_7 0 l5x_13.toNat l4_7 (wr (l5x_13 + 1)).toNat (l4_7.length - (wr (l5x_13 + 1)).toNat) E_GVoice) (cj1 (leMap E_GVoice hn32)))))))))))))))))))))))) ⟨28,pi [(28,27)],_,_,Nat.le_of_ble_eq_true rfl,mkInto (ks:=[1,5,7,8,10,84,85,86]) (ys:=[v_0,.mp 2 0 0,.ms 27 0 (((l4_7.drop 0).take l5x_13.toNat) ++ ((l4_7.drop (wr (l5x_13 + 1)).toNat).take (l4_7.length - (wr (l5x_13 + 1)).toNat))).length,.i l1_8,.mp 10 0 0,v_23,v_24,.i l4_86]) (by kernel_rfl) (by kernel_rfl) (.k (.c (cleanMap _ _ cl_GLaw09Call)) (.k (.mp rfl rfl) (.k (.ms rfl rfl) (.k (.c rfl) (.k (.mp rfl rfl) (.k (.c (cleanMap _ _ cl_GVoice)) (.k (.c rfl) (.k (.c rfl) .z)))))))) (.k (x':=b_25) (by kernel_rfl) (.cells (.r (cleanMap _ _ cl_GVoice))) (.k rfl (.cells (.r (cleanMap _ _ cl_GTake))) (.k rfl (.cells (.r (cleanMap _ _ cl_GCLive))) (.k rfl (.cells (.k (.c (cl_GFrame j3_h10)) .z)) (.k rfl (.cells (.r (cleanMap _ _ cl_GCDesk))) (.k rfl (.cells (.k (.a (.k (.c rfl) (.k (.c rfl) (.k (.c rfl) (.k (.c rfl) (.k (.ms rfl rfl) (.k (.c rfl) (.k (.c rfl) (.k (.c rfl) (.k (.ms rfl rfl) (.k (.c rfl) (.k (.ms rfl rfl) .z)))))))))))) .z)) .z)))))),kj7 (((l4_7.drop 0).take l5x_13.toNat) ++ ((l4_7.drop (wr (l5x_13 + 1)).toNat).take (l4_7.length - (wr (l5x_13 + 1)).toNat))) rfl⟩
           ·rintro _ rfl
            refine inbN ?_
            refine thenN ?_
            refine run0z [] [1,5,7,8,10,84,85,86] [v_0,.mp 2 0 0,.ms 28 0 j7_7.length,.i l1_8,.mp 10 0 0,v_23,v_24,.i (wr (l4_86 + 1))] ⟨[(28,.cells 3 (j7_7.map E_GVoice)),(24,b_18),(23,b_19),(10,b_21),(3,b_20),(2,b_22)],29⟩ _ (by kernel_rfl) cj0 ?_
            replace hl4:=Option.some.inj hl4; subst hl4
            exact ⟨_,rfl,pi [(25,28)],mkInto (ks:=[1,5,7,8,10,84,85,86]) (ys:=[v_0,.mp 2 0 0,.ms 28 0 j7_7.length,.i l1_8,.mp 10 0 0,v_23,v_24,.i (wr (l4_86 + 1))]) (by kernel_rfl) (by kernel_rfl) (.k (.c (cleanMap _ _ cl_GLaw09Call)) (.k (.mp rfl rfl) (.k (.ms rfl rfl) (.k (.c rfl) (.k (.mp rfl rfl) (.k (.c (cleanMap _ _ cl_GVoice)) (.k (.c rfl) (.k (.c rfl) .z)))))))) (.k rfl (.cells (.r (cleanMap _ _ cl_GVoice))) (.k rfl (.cells (.r (cleanMap _ _ cl_GTake))) (.k rfl (.cells (.r (cleanMap _ _ cl_GCLive))) (.k rfl (.cells (.k (.c (cl_GFrame j3_h10)) .z)) (.k rfl (.cells (.r (cleanMap _ _ cl_GCDesk))) (.k rfl (.cells (.k (.a (.k (.c rfl) (.k (.c rfl) (.k (.c rfl) (.k (.c rfl) (.k (.ms rfl rfl) (.k (.c rfl) (.k (.c rfl) (.k (.c rfl) (.k (.ms rfl rfl) (.k (.c rfl) (.k (.ms rfl rfl) .z)))))))))))) .z)) .z))))))⟩
        ·refine run_cF 87 (c7 65) (c7 66) (decide (l4_86 < (j3_h10.end_.length:Int))) hc19 (by kernel_rfl) (by kernel_rfl) ?_
         replace hl4:=Option.some.inj hl4; subst hl4
         have hr:=rl4 _ rfl
         subst hr
         refine awp_p [1,5,7,8,10] [25,24,23,10,3,2] (zipE [1,5,7,8,10] [v_0,.mp 2 0 0,v_28,.i l1_8,.mp 10 0 0]) s_8 (by kernel_rfl) (?_)
         refine run_e 3 (by kernel_rfl) ?_
         refine thenE ?_
         refine ⟨⟨_,rfl⟩,?_⟩
         refine inbE ?_
         exact kl4 l4_7 rfl
       ·rintro l4x_7 rfl
        replace hl1:=elimL hl1
        refine thenN ?_
        refine run_s (c7 95) (c7 132) (by kernel_rfl) ?_
        let v_29:AV:=.sl false (j3_h10.begin.map E_GVoice)
        let v_30:AV:=.i (j3_h10.begin.length:Int)
        refine run1z (c7 97) [{},{},{ k:=1,n:=j3_h10.begin.length }] [1,5,7,8,119,120,121] [v_0,.mp 2 0 0,.ms 25 0 l4x_7.length,.i l1_8,v_29,v_30,.i 0] ⟨[(25,.cells 3 (l4x_7.map E_GVoice)),(24,b_18),(23,b_19),(3,b_20),(2,b_22)],26⟩ _ (by kernel_rfl) (cj1 (mapLen j3_h10.begin E_GVoice)) ?_
        obtain ⟨ol8x,hll8x,hl1⟩:=bindE hl1
        refine run_tq (fun (l8x_7:(List GVoice))=>(zipE [1,5,7,8] [v_0,.mp 2 0 0,.ms 26 0 l8x_7.length,.i l1_8])) (fun (l8x_7:(List GVoice))=>⟨[(26,.cells 3 (l8x_7.map E_GVoice)),(24,b_18),(23,b_19),(3,b_20),(2,b_22)],27⟩) (fun j=>ol8x = .inl j) (fun kl8=>?_) ?_
        ·refine run_b 7 (c7 98) (by kernel_rfl) ?_
         refine run_l (c7 99) _ hll8x (fun ((l8_7,l8_121):(List GVoice × Int))=>(zipE [1,5,7,8,119,120,121] [v_0,.mp 2 0 0,.ms 26 0 l8_7.length,.i l1_8,v_29,v_30,.i l8_121])) (fun ((l8_7,l8_121):(List GVoice × Int))=>⟨[(26,.cells 3 (l8_7.map E_GVoice)),(24,b_18),(23,b_19),(3,b_20),(2,b_22)],27⟩) [(26,25)] (by intro i e; cases e <;> exact Nat.le_of_ble_eq_true rfl) (by kernel_rfl) (mkInto (ks:=[1,5,7,8,119,120,121]) (ys:=[v_0,.mp 2 0 0,.ms 25 0 l4x_7.length,.i l1_8,v_29,v_30,.i 0]) (by kernel_rfl) (by kernel_rfl) (.k (.c (cleanMap _ _ cl_GLaw09Call)) (.k (.mp rfl rfl) (.k (.ms rfl rfl) (.k (.c rfl) (.k (.c (cleanMap _ _ cl_GVoice)) (.k (.c rfl) (.k (.c rfl) .z))))))) (.k rfl (.cells (.r (cleanMap _ _ cl_GVoice))) (.k rfl (.cells (.r (cleanMap _ _ cl_GTake))) (.k rfl (.cells (.r (cleanMap _ _ cl_GCLive))) (.k rfl (.cells (.r (cleanMap _ _ cl_GCDesk))) (.k rfl (.cells (.k (.a (.k (.c rfl) (.k (.c rfl) (.k (.c rfl) (.k (.c rfl) (.k (.ms rfl rfl) (.k (.c rfl) (.k (.c rfl) (.k (.c rfl) (.k (.ms rfl rfl) (.k (.c rfl) (.k (.ms rfl rfl) .z)))))))))))) .z)) .z)))))) ?_
         rintro ⟨l8_7,l8_121⟩ out hl8 rl8
         let v_31:AV:=.ms 26 0 l8_7.length
         let b_26:Blk:=.cells 3 (l8_7.map E_GVoice)
         let s_11:St:=⟨[(26,b_26),(24,b_18),(23,b_19),(3,b_20),(2,b_22)],27⟩
         refine run1z (c7 101) [] [1,5,7,8,119,120,121,122] [v_0,.mp 2 0 0,v_31,.i l1_8,v_29,v_30,.i l8_121,.bool (decide (l8_121 < (j3_h10.begin.length:Int)))] s_11 _ (by kernel_rfl) cj0 ?_
         refine run_s (c7 102) (c7 105) (by kernel_rfl) ?_
         rcases iteE hl8 with ⟨hc35,hl8⟩ | ⟨hc35,hl8⟩
         ·refine run_cT 122 (c7 103) (c7 104) (decide (l8_121 < (j3_h10.begin.length:Int))) hc35 (by kernel_rfl) (by kernel_rfl) ?_
          refine run_k (by kernel_rfl) ?_
          refine thenN ?_
          refine run_s (c7 106) (c7 131) (by kernel_rfl) ?_
          refine run_b 8 (c7 107) (by kernel_rfl) ?_
          obtain ⟨y36,hy36,hl8⟩:=bindE hl8
          let b_27:Blk:=.cells 3 [E_GVoice y36]
          let s_12:St:=⟨[(27,b_27),(26,b_26),(24,b_18),(23,b_19),(3,b_20),(2,b_22)],28⟩
          refine run1z (c7 109) [{ k:=1,x:=E_GVoice y36 }] [1,5,7,8,15,119,120,121] [v_0,.mp 2 0 0,v_31,.i l1_8,.mp 27 0 0,v_29,v_30,.i l8_121] s_12 _ (by kernel_rfl) (cjC ((ixE hy36).1) (cj1 (mapGet E_GVoice (ixE hy36).2))) ?_
          refine run1z (c7 111) [] [1,5,7,8,15,16,119,120,121] [v_0,.mp 2 0 0,v_31,.i l1_8,.mp 27 0 0,.i 0,v_29,v_30,.i l8_121] s_12 _ (by kernel_rfl) cj0 ?_
          obtain ⟨l9x_16,hll9x,hl8⟩:=bindE hl8
          refine run_jq (c7 112) (c7 122) (fun (l9x_16:Int)=>(zipE [1,5,7,8,15,16,119,120,121] [v_0,.mp 2 0 0,v_31,.i l1_8,.mp 27 0 0,.i l9x_16,v_29,v_30,.i l8_121])) (fun (l9x_16:Int)=>s_12) (fun j=>l9x_16 = j) (by kernel_rfl) (fun kl9=>?_) ?_
          ·refine run_b 9 (c7 113) (by kernel_rfl) ?_
           refine run_l (c7 114) _ hll9x (fun (l9_16:Int)=>(zipE [1,5,7,8,15,16,119,120,121] [v_0,.mp 2 0 0,v_31,.i l1_8,.mp 27 0 0,.i l9_16,v_29,v_30,.i l8_121])) (fun (l9_16:Int)=>s_12) [] (by intro i e; cases e <;> exact Nat.le_of_ble_eq_true rfl) (by kernel_rfl) (mkInto (ks:=[1,5,7,8,15,16,119,120,121]) (ys:=[v_0,.mp 2 0 0,v_31,.i l1_8,.mp 27 0 0,.i 0,v_29,v_30,.i l8_121]) (by kernel_rfl) (by kernel_rfl) (.k (.c (cleanMap _ _ cl_GLaw09Call)) (.k (.mp rfl rfl) (.k (.ms rfl rfl) (.k (.c rfl) (.k (.mp rfl rfl) (.k (.c rfl) (.k (.c (cleanMap _ _ cl_GVoice)) (.k (.c rfl) (.k (.c rfl) .z))))))))) (.k rfl (.cells (.k (.c (cl_GVoice y36)) .z)) (.k rfl (.cells (.r (cleanMap _ _ cl_GVoice))) (.k rfl (.cells (.r (cleanMap _ _ cl_GTake))) (.k rfl (.cells (.r (cleanMap _ _ cl_GCLive))) (.k rfl (.cells (.r (cleanMap _ _ cl_GCDesk))) (.k rfl (.cells (.k (.a (.k (.c rfl) (.k (.c rfl) (.k (.c rfl) (.k (.c rfl) (.k (.ms rfl rfl) (.k (.c rfl) (.k (.c rfl) (.k (.c rfl) (.k (.ms rfl rfl) (.k (.c rfl) (.k (.ms rfl rfl) .z)))))))))))) .z)) .z))))))) ?_
           rintro l9_16 out hl9 rl9
           refine run_s (c7 115) (c7 120) (by kernel_rfl) ?_
           obtain ⟨j10_158,hj10,hl9⟩:=bindE hl9
           refine run_gq (c7 117) (fun (j10_158:Bool)=>(zipE [1,5,7,8,15,16,119,120,121,158] [v_0,.mp 2 0 0,v_31,.i l1_8,.mp 27 0 0,.i l9_16,v_29,v_30,.i l8_121,.bool j10_158])) (fun (j10_158:Bool)=>s_12) (fun j=>j10_158 = j) (fun kj10=>?_) ?_
           ·rcases iteE hj10 with ⟨hc37,hj10⟩ | ⟨hc37,hj10⟩
            ·obtain ⟨y38,hy38,hj10⟩:=bindE hj10
             rcases iteE hj10 with ⟨hc39,hj10⟩ | ⟨hc39,hj10⟩
             ·replace hj10:=Option.some.inj hj10; subst hj10
              exact yun1z (c7 117) [[],[],[1],[0,1,2],[0,1,2,3],[0,1,2,3,4],[0,1,2,3,4],[0,1,2,3,4,5,6],[0,1,2,3,4,5,6,7],[0,1,2,3,4,5,6,7,8],[0,1,2,3,4],[0,1,2,3,4,10],[0,1,2,3,4,5,6,7,8,9,10,11],[0,1,2,3,4,5,6,7,8,9,10,11,12],[0,1,2,3,4,5,6,7,8,9,10,11,12,13],[0,1,2,3,4,5,6,7,8,9,10,11,12,13],[0,1,2,3,4,5,6,7,8,9,10,11,12,13,14,15],[0,1,2,3,4,5,6,7,8,9,10,11,12,13,14,15,16],[0,1,2,3,4,5,6,7,8,9,10,11,12,13,14,15,16,17],[0,1,2,3,4,5,6,7,8,9,10,11,12,13],[0,1,2,3,4,5,6,7,8,9,10,11,12,13,19],[0,1,2,3,4,5,6,7,8,9,10,11,12,13,14,15,16,17,18,19,20],[0,1,2,3,4,5,6,7,8,9,10,11,12,13,14,15,16,17,18,19,20,21],[0,1,2,3,4,5,6,7,8,9,10,11,12,13,14,15,16,17,18,19,20,21,22],[0,1,2,3,4,5,6,7,8,9,10,11,12,13,14,15,16,17,18,19,20,21,22],[0,1,2,3,4,5,6,7,8,9,10,11,12,13,14,15,16,17,18,19,20,21,22,23,24],[0,1,2,3,4,5,6,7,8,9,10,11,12,13,14,15,16,17,18,19,20,21,22,23,24,25],[0,1,2,3,4,5,6,7,8,9,10,11,12,13,14,15,16,17,18,19,20,21,22,23,24,25,26],[0,1,2,3,4,5,6,7,8,9,10,11,12,13,14,15,16,17,18,19,20,21,22],[0,1,2,3,4,5,6,7,8,9,10,11,12,13,14,15,16,17,18,19,20,21,22,28],[0,1,2,3,4,5,6,7,8,9,10,11,12,13,14,15,16,17,18,19,20,21,22,23,24,25,26,27,28,29],[0,1,2,3,4,5,6,7,8,9,10,11,12,13,14,15,16,17,18,19,20,21,22,23,24,25,26,27,28,29,30],[0,1,2,3,4,5,6,7,8,9,10,11,12,13,14,15,16,17,18,19,20,21,22,23,24,25,26,27,28,29,30,31],[0,1,2,3,4,5,6,7,8,9,10,11,12,13,14,15,16,17,18,19,20,21,22,23,24,25,26,27,28,29,30,31,32]] [.light 0 false,.light 1 false,.light 2 false,.light 3 false,.light 4 false,.light 5 false,.light 6 false,.light 7 false,.light 8 false,.light 9 false,.light 10 false,.light 11 false,.light 12 false,.light 13 false,.light 14 false,.light 15 false,.light 16 false,.light 17 false,.light 18 false,.light 19 false,.light 20 false,.light 21 false,.light 22 false,.light 23 false,.light 24 false,.light 25 false,.light 26 false,.light 27 false,.light 28 false,.light 29 false,.light 30 false,.light 31 false,.light 32 false,.light 33 false] [{},{},{},{},{},{},{},{ k:=1,n:=l9_16.toNat },{},{ k:=1,x:=E_GVoice y38 },{},{},{},{},{ g:=false },{ g:=false },{ g:=false },{ g:=false },{ g:=false },{ g:=false },{ g:=false },{ g:=false },{ g:=false },{},{},{},{},{},{},{},{},{ g:=false }] [1,5,7,8,15,16,119,120,121,158] [v_0,.mp 2 0 0,v_31,.i l1_8,.mp 27 0 0,.i l9_16,v_29,v_30,.i l8_121,.bool true] s_12 _ (by kernel_rfl) (cjC (hc37) (cjC (Eq.refl true) (cjC (Eq.refl true) (cjC ((ixE hy38).1) (cjC (ixLt hy38) (cjC (Nat.zero_add l9_16.toNat) (cjC (Eq.refl true) (cjC (Eq.refl true) (cjC (mapGet E_GVoice (ixE hy38).2) (cjC (Eq.refl true) (cjC (Eq.refl true) (cjC (Eq.refl true) (cjC (Eq.refl true) (cjC (hc39) (cjC (Eq.refl true) (cjC (Eq.refl true) (cjC (Eq.refl true) (cjC (Eq.refl true) (cjC (Eq.refl true) (cjC (Eq.refl true) (cjC (Eq.refl true) (cjC (Eq.refl true) (cjC (Eq.refl true) (cj1 (Eq.refl true))))))))))))))))))))))))) (kj10 true rfl)
             ·rcases iteE hj10 with ⟨hc40,hj10⟩ | ⟨hc40,hj10⟩
              ·replace hj10:=Option.some.inj hj10; subst hj10
               exact yun1z (c7 117) [[],[],[1],[0,1,2],[0,1,2,3],[0,1,2,3,4],[0,1,2,3,4],[0,1,2,3,4,5,6],[0,1,2,3,4,5,6,7],[0,1,2,3,4,5,6,7,8],[0,1,2,3,4],[0,1,2,3,4,10],[0,1,2,3,4,5,6,7,8,9,10,11],[0,1,2,3,4,5,6,7,8,9,10,11,12],[0,1,2,3,4,5,6,7,8,9,10,11,12,13],[0,1,2,3,4,5,6,7,8,9,10,11,12,13],[0,1,2,3,4,5,6,7,8,9,10,11,12,13,14,15],[0,1,2,3,4,5,6,7,8,9,10,11,12,13,14,15,16],[0,1,2,3,4,5,6,7,8,9,10,11,12,13,14,15,16,17],[0,1,2,3,4,5,6,7,8,9,10,11,12,13],[0,1,2,3,4,5,6,7,8,9,10,11,12,13,19],[0,1,2,3,4,5,6,7,8,9,10,11,12,13,14,15,16,17,18,19,20],[0,1,2,3,4,5,6,7,8,9,10,11,12,13,14,15,16,17,18,19,20,21],[0,1,2,3,4,5,6,7,8,9,10,11,12,13,14,15,16,17,18,19,20,21,22],[0,1,2,3,4,5,6,7,8,9,10,11,12,13,14,15,16,17,18,19,20,21,22],[0,1,2,3,4,5,6,7,8,9,10,11,12,13,14,15,16,17,18,19,20,21,22,23,24],[0,1,2,3,4,5,6,7,8,9,10,11,12,13,14,15,16,17,18,19,20,21,22,23,24,25],[0,1,2,3,4,5,6,7,8,9,10,11,12,13,14,15,16,17,18,19,20,21,22,23,24,25,26],[0,1,2,3,4,5,6,7,8,9,10,11,12,13,14,15,16,17,18,19,20,21,22],[0,1,2,3,4,5,6,7,8,9,10,11,12,13,14,15,16,17,18,19,20,21,22,28],[0,1,2,3,4,5,6,7,8,9,10,11,12,13,14,15,16,17,18,19,20,21,22,23,24,25,26,27,28,29],[0,1,2,3,4,5,6,7,8,9,10,11,12,13,14,15,16,17,18,19,20,21,22,23,24,25,26,27,28,29,30],[0,1,2,3,4,5,6,7,8,9,10,11,12,13,14,15,16,17,18,19,20,21,22,23,24,25,26,27,28,29,30,31],[0,1,2,3,4,5,6,7,8,9,10,11,12,13,14,15,16,17,18,19,20,21,22,23,24,25,26,27,28,29,30,31,32]] [.light 0 false,.light 1 false,.light 2 false,.light 3 false,.light 4 false,.light 5 false,.light 6 false,.light 7 false,.light 8 false,.light 9 false,.light 10 false,.light 11 false,.light 12 false,.light 13 false,.light 14 false,.light 15 false,.light 16 false,.light 17 false,.light 18 false,.light 19 false,.light 20 false,.light 21 false,.light 22 false,.light 23 false,.light 24 false,.light 25 false,.light 26 false,.light 27 false,.light 28 false,.light 29 false,.light 30 false,.light 31 false,.light 32 false,.light 33 false] [{},{},{},{},{},{},{},{ k:=1,n:=l9_16.toNat },{},{ k:=1,x:=E_GVoice y38 },{},{},{},{},{},{},{ k:=1,n:=l9_16.toNat },{},{ k:=1,x:=E_GVoice y38 },{},{},{},{},{},{},{ k:=1,n:=l9_16.toNat },{},{ k:=1,x:=E_GVoice y38 }] [1,5,7,8,15,16,119,120,121,158] [v_0,.mp 2 0 0,v_31,.i l1_8,.mp 27 0 0,.i l9_16,v_29,v_30,.i l8_121,.bool (decide (y38.course < y36.course))] s_12 _ (by kernel_rfl) (cjC (hc37) (cjC (Eq.refl true) (cjC (Eq.refl true) (cjC ((ixE hy38).1) (cjC (ixLt hy38) (cjC (Nat.zero_add l9_16.toNat) (cjC (Eq.refl true) (cjC (Eq.refl true) (cjC (mapGet E_GVoice (ixE hy38).2) (cjC (Eq.refl true) (cjC (Eq.refl true) (cjC (Eq.refl true) (cjC (Eq.refl true) (cjC (hc39) (cjC (Eq.refl false) (cjC (Eq.refl false) (cjC ((ixE hy38).1) (cjC (ixLt hy38) (cjC (Nat.zero_add l9_16.toNat) (cjC (Eq.refl false) (cjC (Eq.refl false) (cjC (mapGet E_GVoice (ixE hy38).2) (cjC (Eq.refl false) (cjC (Eq.refl false) (cjC (Eq.refl false) (cjC (Eq.refl false) (cjC (hc40) (cjC (Eq.refl true) (cjC (Eq.refl true) (cjC ((ixE hy38).1) (cjC (ixLt hy38) (cjC (Nat.zero_add l9_16.toNat) (cjC (Eq.refl true) (cjC (Eq.refl true) (cjC (mapGet E_GVoice (ixE hy38).2) (cjC (Eq.refl true) (cjC (Eq.refl true) (cjC (Eq.refl true) (cjC (Eq.refl false) (cj1 (Eq.refl true))))))))))))))))))))))))))))))))))))))))) (kj10 (decide (y38.course < y36.course)) rfl)
              ·replace hj10:=Option.some.inj hj10; subst hj10
               exact yun1z (c7 117) [[],[],[1],[0,1,2],[0,1,2,3],[0,1,2,3,4],[0,1,2,3,4],[0,1,2,3,4,5,6],[0,1,2,3,4,5,6,7],[0,1,2,3,4,5,6,7,8],[0,1,2,3,4],[0,1,2,3,4,10],[0,1,2,3,4,5,6,7,8,9,10,11],[0,1,2,3,4,5,6,7,8,9,10,11,12],[0,1,2,3,4,5,6,7,8,9,10,11,12,13],[0,1,2,3,4,5,6,7,8,9,10,11,12,13],[0,1,2,3,4,5,6,7,8,9,10,11,12,13,14,15],[0,1,2,3,4,5,6,7,8,9,10,11,12,13,14,15,16],[0,1,2,3,4,5,6,7,8,9,10,11,12,13,14,15,16,17],[0,1,2,3,4,5,6,7,8,9,10,11,12,13],[0,1,2,3,4,5,6,7,8,9,10,11,12,13,19],[0,1,2,3,4,5,6,7,8,9,10,11,12,13,14,15,16,17,18,19,20],[0,1,2,3,4,5,6,7,8,9,10,11,12,13,14,15,16,17,18,19,20,21],[0,1,2,3,4,5,6,7,8,9,10,11,12,13,14,15,16,17,18,19,20,21,22],[0,1,2,3,4,5,6,7,8,9,10,11,12,13,14,15,16,17,18,19,20,21,22],[0,1,2,3,4,5,6,7,8,9,10,11,12,13,14,15,16,17,18,19,20,21,22,23,24],[0,1,2,3,4,5,6,7,8,9,10,11,12,13,14,15,16,17,18,19,20,21,22,23,24,25],[0,1,2,3,4,5,6,7,8,9,10,11,12,13,14,15,16,17,18,19,20,21,22,23,24,25,26],[0,1,2,3,4,5,6,7,8,9,10,11,12,13,14,15,16,17,18,19,20,21,22],[0,1,2,3,4,5,6,7,8,9,10,11,12,13,14,15,16,17,18,19,20,21,22,28],[0,1,2,3,4,5,6,7,8,9,10,11,12,13,14,15,16,17,18,19,20,21,22,23,24,25,26,27,28,29],[0,1,2,3,4,5,6,7,8,9,10,11,12,13,14,15,16,17,18,19,20,21,22,23,24,25,26,27,28,29,30],[0,1,2,3,4,5,6,7,8,9,10,11,12,13,14,15,16,17,18,19,20,21,22,23,24,25,26,27,28,29,30,31],[0,1,2,3,4,5,6,7,8,9,10,11,12,13,14,15,16,17,18,19,20,21,22,23,24,25,26,27,28,29,30,31,32]] [.light 0 false,.light 1 false,.light 2 false,.light 3 false,.light 4 false,.light 5 false,.light 6 false,.light 7 false,.light 8 false,.light 9 false,.light 10 false,.light 11 false,.light 12 false,.light 13 false,.light 14 false,.light 15 false,.light 16 false,.light 17 false,.light 18 false,.light 19 false,.light 20 false,.light 21 false,.light 22 false,.light 23 false,.light 24 false,.light 25 false,.light 26 false,.light 27 false,.light 28 false,.light 29 false,.light 30 false,.light 31 false,.light 32 false,.light 33 false] [{},{},{},{},{},{},{},{ k:=1,n:=l9_16.toNat },{},{ k:=1,x:=E_GVoice y38 },{},{},{},{},{},{},{ k:=1,n:=l9_16.toNat },{},{ k:=1,x:=E_GVoice y38 },{},{},{},{},{ g:=false },{ g:=false },{ g:=false },{ g:=false },{ g:=false },{ g:=false },{ g:=false },{ g:=false }] [1,5,7,8,15,16,119,120,121,158] [v_0,.mp 2 0 0,v_31,.i l1_8,.mp 27 0 0,.i l9_16,v_29,v_30,.i l8_121,.bool false] s_12 _ (by kernel_rfl) (cjC (hc37) (cjC (Eq.refl true) (cjC (Eq.refl true) (cjC ((ixE hy38).1) (cjC (ixLt hy38) (cjC (Nat.zero_add l9_16.toNat) (cjC (Eq.refl true) (cjC (Eq.refl true) (cjC (mapGet E_GVoice (ixE hy38).2) (cjC (Eq.refl true) (cjC (Eq.refl true) (cjC (Eq.refl true) (cjC (Eq.refl true) (cjC (hc39) (cjC (Eq.refl false) (cjC (Eq.refl false) (cjC ((ixE hy38).1) (cjC (ixLt hy38) (cjC (Nat.zero_add l9_16.toNat) (cjC (Eq.refl false) (cjC (Eq.refl false) (cjC (mapGet E_GVoice (ixE hy38).2) (cjC (Eq.refl false) (cjC (Eq.refl false) (cjC (Eq.refl false) (cjC (Eq.refl false) (cjC (hc40) (cjC (Eq.refl false) (cjC (Eq.refl false) (cjC (Eq.refl false) (cjC (Eq.refl false) (cjC (Eq.refl false) (cjC (Eq.refl false) (cjC (Eq.refl false) (cjC (Eq.refl false) (cj1 (Eq.refl true))))))))))))))))))))))))))))))))))))) (kj10 false rfl)
            ·replace hj10:=Option.some.inj hj10; subst hj10
             exact yun1z (c7 117) [[],[],[1],[0,1,2],[0,1,2,3],[0,1,2,3,4],[0,1,2,3,4],[0,1,2,3,4,5,6],[0,1,2,3,4,5,6,7],[0,1,2,3,4,5,6,7,8],[0,1,2,3,4],[0,1,2,3,4,10],[0,1,2,3,4,5,6,7,8,9,10,11],[0,1,2,3,4,5,6,7,8,9,10,11,12],[0,1,2,3,4,5,6,7,8,9,10,11,12,13],[0,1,2,3,4,5,6,7,8,9,10,11,12,13],[0,1,2,3,4,5,6,7,8,9,10,11,12,13,14,15],[0,1,2,3,4,5,6,7,8,9,10,11,12,13,14,15,16],[0,1,2,3,4,5,6,7,8,9,10,11,12,13,14,15,16,17],[0,1,2,3,4,5,6,7,8,9,10,11,12,13],[0,1,2,3,4,5,6,7,8,9,10,11,12,13,19],[0,1,2,3,4,5,6,7,8,9,10,11,12,13,14,15,16,17,18,19,20],[0,1,2,3,4,5,6,7,8,9,10,11,12,13,14,15,16,17,18,19,20,21],[0,1,2,3,4,5,6,7,8,9,10,11,12,13,14,15,16,17,18,19,20,21,22],[0,1,2,3,4,5,6,7,8,9,10,11,12,13,14,15,16,17,18,19,20,21,22],[0,1,2,3,4,5,6,7,8,9,10,11,12,13,14,15,16,17,18,19,20,21,22,23,24],[0,1,2,3,4,5,6,7,8,9,10,11,12,13,14,15,16,17,18,19,20,21,22,23,24,25],[0,1,2,3,4,5,6,7,8,9,10,11,12,13,14,15,16,17,18,19,20,21,22,23,24,25,26],[0,1,2,3,4,5,6,7,8,9,10,11,12,13,14,15,16,17,18,19,20,21,22],[0,1,2,3,4,5,6,7,8,9,10,11,12,13,14,15,16,17,18,19,20,21,22,28],[0,1,2,3,4,5,6,7,8,9,10,11,12,13,14,15,16,17,18,19,20,21,22,23,24,25,26,27,28,29],[0,1,2,3,4,5,6,7,8,9,10,11,12,13,14,15,16,17,18,19,20,21,22,23,24,25,26,27,28,29,30],[0,1,2,3,4,5,6,7,8,9,10,11,12,13,14,15,16,17,18,19,20,21,22,23,24,25,26,27,28,29,30,31],[0,1,2,3,4,5,6,7,8,9,10,11,12,13,14,15,16,17,18,19,20,21,22,23,24,25,26,27,28,29,30,31,32]] [.light 0 false,.light 1 false,.light 2 false,.light 3 false,.light 4 false,.light 5 false,.light 6 false,.light 7 false,.light 8 false,.light 9 false,.light 10 false,.light 11 false,.light 12 false,.light 13 false,.light 14 false,.light 15 false,.light 16 false,.light 17 false,.light 18 false,.light 19 false,.light 20 false,.light 21 false,.light 22 false,.light 23 false,.light 24 false,.light 25 false,.light 26 false,.light 27 false,.light 28 false,.light 29 false,.light 30 false,.light 31 false,.light 32 false,.light 33 false] [{},{},{},{},{},{ g:=false },{ g:=false },{ g:=false },{ g:=false },{ g:=false },{ g:=false },{ g:=false },{ g:=false },{ g:=false },{},{},{},{},{},{},{},{},{},{},{},{},{},{},{},{},{},{},{ g:=false }] [1,5,7,8,15,16,119,120,121,158] [v_0,.mp 2 0 0,v_31,.i l1_8,.mp 27 0 0,.i l9_16,v_29,v_30,.i l8_121,.bool false] s_12 _ (by kernel_rfl) (cjC (hc37) (cjC (Eq.refl false) (cjC (Eq.refl false) (cjC (Eq.refl false) (cjC (Eq.refl false) (cjC (Eq.refl false) (cjC (Eq.refl false) (cjC (Eq.refl false) (cjC (Eq.refl false) (cj1 (Eq.refl false))))))))))) (kj10 false rfl)
           ·rintro _ rfl
            rcases iteE hl9 with ⟨hc41,hl9⟩ | ⟨hc41,hl9⟩
            ·refine run_cT 158 (c7 118) (c7 119) j10_158 hc41 (by kernel_rfl) (by kernel_rfl) ?_
             refine run_k (by kernel_rfl) ?_
             refine thenN ?_
             refine run_b 10 (c7 121) (by kernel_rfl) ?_
             refine run0z [] [1,5,7,8,15,16,119,120,121] [v_0,.mp 2 0 0,v_31,.i l1_8,.mp 27 0 0,.i (wr (l9_16 + 1)),v_29,v_30,.i l8_121] s_12 _ (by kernel_rfl) cj0 ?_
             replace hl9:=Option.some.inj hl9; subst hl9
             refine inbN ?_
             exact ⟨_,rfl,pi [],mkInto (ks:=[1,5,7,8,15,16,119,120,121]) (ys:=[v_0,.mp 2 0 0,v_31,.i l1_8,.mp 27 0 0,.i (wr (l9_16 + 1)),v_29,v_30,.i l8_121]) (by kernel_rfl) (by kernel_rfl) (.k (.c (cleanMap _ _ cl_GLaw09Call)) (.k (.mp rfl rfl) (.k (.ms rfl rfl) (.k (.c rfl) (.k (.mp rfl rfl) (.k (.c rfl) (.k (.c (cleanMap _ _ cl_GVoice)) (.k (.c rfl) (.k (.c rfl) .z))))))))) (.k rfl (.cells (.k (.c (cl_GVoice y36)) .z)) (.k rfl (.cells (.r (cleanMap _ _ cl_GVoice))) (.k rfl (.cells (.r (cleanMap _ _ cl_GTake))) (.k rfl (.cells (.r (cleanMap _ _ cl_GCLive))) (.k rfl (.cells (.r (cleanMap _ _ cl_GCDesk))) (.k rfl (.cells (.k (.a (.k (.c rfl) (.k (.c rfl) (.k (.c rfl) (.k (.c rfl) (.k (.ms rfl rfl) (.k (.c rfl) (.k (.c rfl) (.k (.c rfl) (.k (.ms rfl rfl) (.k (.c rfl) (.k (.ms rfl rfl) .z)))))))))))) .z)) .z))))))⟩
            ·refine run_cF 158 (c7 118) (c7 119) j10_158 hc41 (by kernel_rfl) (by kernel_rfl) ?_
             replace hl9:=Option.some.inj hl9; subst hl9
             have hr:=rl9 _ rfl
             subst hr
             refine awp_p [1,5,7,8,15,16,119,120,121] [27,26,24,23,3,2] (zipE [1,5,7,8,15,16,119,120,121] [v_0,.mp 2 0 0,v_31,.i l1_8,.mp 27 0 0,.i l9_16,v_29,v_30,.i l8_121]) s_12 (by kernel_rfl) (?_)
             refine run_e 9 (by kernel_rfl) ?_
             refine thenE ?_
             refine ⟨⟨_,rfl⟩,?_⟩
             refine inbE ?_
             refine thenN ?_
             exact kl9 l9_16 rfl
          ·rintro _ rfl
           refine run_s (c7 123) (c7 130) (by kernel_rfl) ?_
           obtain ⟨j11_184,hj11,hl8⟩:=bindE hl8
           refine run_gq (c7 125) (fun (j11_184:Bool)=>(zipE [1,5,7,8,15,16,119,120,121,184] [v_0,.mp 2 0 0,v_31,.i l1_8,.mp 27 0 0,.i l9x_16,v_29,v_30,.i l8_121,.bool j11_184])) (fun (j11_184:Bool)=>s_12) (fun j=>j11_184 = j) (fun kj11=>?_) ?_
           ·rcases iteE hj11 with ⟨hc42,hj11⟩ | ⟨hc42,hj11⟩
            ·obtain ⟨y43,hy43,hj11⟩:=bindE hj11
             rcases iteE hj11 with ⟨hc44,hj11⟩ | ⟨hc44,hj11⟩
             ·replace hj11:=Option.some.inj hj11; subst hj11
              exact yun1z (c7 125) [[],[],[1],[0,1,2],[0,1,2,3],[0,1,2,3,4],[0,1,2,3,4],[0,1,2,3,4,5,6],[0,1,2,3,4,5,6,7],[0,1,2,3,4,5,6,7,8],[0,1,2,3,4],[0,1,2,3,4,10],[0,1,2,3,4,5,6,7,8,9,10,11],[0,1,2,3,4,5,6,7,8,9,10,11,12],[0,1,2,3,4,5,6,7,8,9,10,11,12,13],[0,1,2,3,4,5,6,7,8,9,10,11,12,13,14],[0,1,2,3,4,5,6,7,8,9,10,11,12,13,14],[0,1,2,3,4,5,6,7,8,9,10,11,12,13,14,15,16],[0,1,2,3,4,5,6,7,8,9,10,11,12,13,14,15,16,17],[0,1,2,3,4,5,6,7,8,9,10,11,12,13,14,15,16,17,18],[0,1,2,3,4,5,6,7,8,9,10,11,12,13,14],[0,1,2,3,4,5,6,7,8,9,10,11,12,13,14,20],[0,1,2,3,4,5,6,7,8,9,10,11,12,13,14,15,16,17,18,19,20,21],[0,1,2,3,4,5,6,7,8,9,10,11,12,13,14,15,16,17,18,19,20,21,22]] [.light 0 false,.light 1 false,.light 2 false,.light 3 false,.light 4 false,.light 5 false,.light 6 false,.light 7 false,.light 8 false,.light 9 false,.light 10 false,.light 11 false,.light 12 false,.light 13 false,.light 14 false,.light 15 false,.light 16 false,.light 17 false,.light 18 false,.light 19 false,.light 20 false,.light 21 false,.light 22 false,.light 23 false] [{},{},{},{},{},{},{},{ k:=1,n:=l9x_16.toNat },{},{ k:=1,x:=E_GVoice y43 },{},{},{},{},{},{},{},{ k:=1,n:=l9x_16.toNat },{},{ k:=1,x:=E_GVoice y43 }] [1,5,7,8,15,16,119,120,121,184] [v_0,.mp 2 0 0,v_31,.i l1_8,.mp 27 0 0,.i l9x_16,v_29,v_30,.i l8_121,.bool (decide (y43.course = y36.course))] s_12 _ (by kernel_rfl) (cjC (hc42) (cjC (Eq.refl true) (cjC (Eq.refl true) (cjC ((ixE hy43).1) (cjC (ixLt hy43) (cjC (Nat.zero_add l9x_16.toNat) (cjC (Eq.refl true) (cjC (Eq.refl true) (cjC (mapGet E_GVoice (ixE hy43).2) (cjC (Eq.refl true) (cjC (Eq.refl true) (cjC (Eq.refl true) (cjC (hc44) (cjC (Eq.refl true) (cjC (Eq.refl true) (cjC ((ixE hy43).1) (cjC (ixLt hy43) (cjC (Nat.zero_add l9x_16.toNat) (cjC (Eq.refl true) (cjC (Eq.refl true) (cjC (mapGet E_GVoice (ixE hy43).2) (cjC (Eq.refl true) (cjC (Eq.refl true) (cj1 (Eq.refl true))))))))))))))))))))))))) (kj11 (decide (y43.course = y36.course)) rfl)
             ·replace hj11:=Option.some.inj hj11; subst hj11
              exact yun1z (c7 125) [[],[],[1],[0,1,2],[0,1,2,3],[0,1,2,3,4],[0,1,2,3,4],[0,1,2,3,4,5,6],[0,1,2,3,4,5,6,7],[0,1,2,3,4,5,6,7,8],[0,1,2,3,4],[0,1,2,3,4,10],[0,1,2,3,4,5,6,7,8,9,10,11],[0,1,2,3,4,5,6,7,8,9,10,11,12],[0,1,2,3,4,5,6,7,8,9,10,11,12,13],[0,1,2,3,4,5,6,7,8,9,10,11,12,13,14],[0,1,2,3,4,5,6,7,8,9,10,11,12,13,14],[0,1,2,3,4,5,6,7,8,9,10,11,12,13,14,15,16],[0,1,2,3,4,5,6,7,8,9,10,11,12,13,14,15,16,17],[0,1,2,3,4,5,6,7,8,9,10,11,12,13,14,15,16,17,18],[0,1,2,3,4,5,6,7,8,9,10,11,12,13,14],[0,1,2,3,4,5,6,7,8,9,10,11,12,13,14,20],[0,1,2,3,4,5,6,7,8,9,10,11,12,13,14,15,16,17,18,19,20,21],[0,1,2,3,4,5,6,7,8,9,10,11,12,13,14,15,16,17,18,19,20,21,22]] [.light 0 false,.light 1 false,.light 2 false,.light 3 false,.light 4 false,.light 5 false,.light 6 false,.light 7 false,.light 8 false,.light 9 false,.light 10 false,.light 11 false,.light 12 false,.light 13 false,.light 14 false,.light 15 false,.light 16 false,.light 17 false,.light 18 false,.light 19 false,.light 20 false,.light 21 false,.light 22 false,.light 23 false] [{},{},{},{},{},{},{},{ k:=1,n:=l9x_16.toNat },{},{ k:=1,x:=E_GVoice y43 },{},{},{},{},{},{ g:=false },{ g:=false },{ g:=false },{ g:=false },{ g:=false },{ g:=false },{ g:=false },{ g:=false }] [1,5,7,8,15,16,119,120,121,184] [v_0,.mp 2 0 0,v_31,.i l1_8,.mp 27 0 0,.i l9x_16,v_29,v_30,.i l8_121,.bool false] s_12 _ (by kernel_rfl) (cjC (hc42) (cjC (Eq.refl true) (cjC (Eq.refl true) (cjC ((ixE hy43).1) (cjC (ixLt hy43) (cjC (Nat.zero_add l9x_16.toNat) (cjC (Eq.refl true) (cjC (Eq.refl true) (cjC (mapGet E_GVoice (ixE hy43).2) (cjC (Eq.refl true) (cjC (Eq.refl true) (cjC (Eq.refl true) (cjC (hc44) (cjC (Eq.refl false) (cjC (Eq.refl false) (cjC (Eq.refl false) (cjC (Eq.refl false) (cjC (Eq.refl false) (cjC (Eq.refl false) (cj1 (Eq.refl false))))))))))))))))))))) (kj11 false rfl)
            ·replace hj11:=Option.some.inj hj11; subst hj11
             exact yun1z (c7 125) [[],[],[1],[0,1,2],[0,1,2,3],[0,1,2,3,4],[0,1,2,3,4],[0,1,2,3,4,5,6],[0,1,2,3,4,5,6,7],[0,1,2,3,4,5,6,7,8],[0,1,2,3,4],[0,1,2,3,4,10],[0,1,2,3,4,5,6,7,8,9,10,11],[0,1,2,3,4,5,6,7,8,9,10,11,12],[0,1,2,3,4,5,6,7,8,9,10,11,12,13],[0,1,2,3,4,5,6,7,8,9,10,11,12,13,14],[0,1,2,3,4,5,6,7,8,9,10,11,12,13,14],[0,1,2,3,4,5,6,7,8,9,10,11,12,13,14,15,16],[0,1,2,3,4,5,6,7,8,9,10,11,12,13,14,15,16,17],[0,1,2,3,4,5,6,7,8,9,10,11,12,13,14,15,16,17,18],[0,1,2,3,4,5,6,7,8,9,10,11,12,13,14],[0,1,2,3,4,5,6,7,8,9,10,11,12,13,14,20],[0,1,2,3,4,5,6,7,8,9,10,11,12,13,14,15,16,17,18,19,20,21],[0,1,2,3,4,5,6,7,8,9,10,11,12,13,14,15,16,17,18,19,20,21,22]] [.light 0 false,.light 1 false,.light 2 false,.light 3 false,.light 4 false,.light 5 false,.light 6 false,.light 7 false,.light 8 false,.light 9 false,.light 10 false,.light 11 false,.light 12 false,.light 13 false,.light 14 false,.light 15 false,.light 16 false,.light 17 false,.light 18 false,.light 19 false,.light 20 false,.light 21 false,.light 22 false,.light 23 false] [{},{},{},{},{},{ g:=false },{ g:=false },{ g:=false },{ g:=false },{ g:=false },{ g:=false },{ g:=false },{ g:=false },{},{},{ g:=false },{ g:=false },{ g:=false },{ g:=false },{ g:=false },{ g:=false },{ g:=false },{ g:=false }] [1,5,7,8,15,16,119,120,121,184] [v_0,.mp 2 0 0,v_31,.i l1_8,.mp 27 0 0,.i l9x_16,v_29,v_30,.i l8_121,.bool false] s_12 _ (by kernel_rfl) (cjC (hc42) (cjC (Eq.refl false) (cjC (Eq.refl false) (cjC (Eq.refl false) (cjC (Eq.refl false) (cjC (Eq.refl false) (cjC (Eq.refl false) (cjC (Eq.refl false) (cjC (Eq.refl false) (cjC (Eq.refl false) (cjC (Eq.refl false) (cjC (Eq.refl false) (cjC (Eq.refl false) (cjC (Eq.refl false) (cjC (Eq.refl false) (cj1 (Eq.refl false))))))))))))))))) (kj11 false rfl)
           ·rintro _ rfl
            rcases iteE hl8 with ⟨hc45,hl8⟩ | ⟨hc45,hl8⟩
            ·refine run_cT 184 (c7 126) (c7 129) j11_184 hc45 (by kernel_rfl) (by kernel_rfl) ?_
             refine run1z (c7 128) [] [4] [.bool false] ⟨[],28⟩ _ (by kernel_rfl) cj0 ?_
             replace hl8:=Option.some.inj hl8; subst hl8
             have hr:=rl8 _ rfl
             subst hr
             replace hl1:=elimR hl1
             replace hl1:=Option.some.inj hl1; subst hl1
             have hr:=rl1 _ rfl
             subst hr
             replace h:=elimR h
             refine run_t (by kernel_rfl) ?_
             refine thenR ?_
             refine inbR ?_
             refine thenR ?_
             refine ⟨⟨_,rfl⟩,?_⟩
             refine inbR ?_
             refine thenR ?_
             refine inbR ?_
             refine thenR ?_
             refine ⟨⟨_,rfl⟩,?_⟩
             refine inbR ?_
             refine thenR ?_
             replace h:=Option.some.inj h; subst h
             exact fin_r (by kernel_rfl) rfl
            ·refine run_cF 184 (c7 126) (c7 129) j11_184 hc45 (by kernel_rfl) (by kernel_rfl) ?_
             refine run_k (by kernel_rfl) ?_
             refine thenN ?_
             obtain ⟨j12_7,hj12,hl8⟩:=bindE hl8
             refine run_tq (fun (j12_7:(List GVoice))=>(zipE [1,5,7,8,119,120,121] [v_0,.mp 2 0 0,.ms 30 0 j12_7.length,.i l1_8,v_29,v_30,.i l8_121])) (fun (j12_7:(List GVoice))=>⟨[(30,.cells 3 (j12_7.map E_GVoice)),(24,b_18),(23,b_19),(3,b_20),(2,b_22)],31⟩) (fun j=>j12_7 = j) (fun kj12=>?_) ?_
             ·obtain ⟨hn46,hj12⟩:=needE hj12
              obtain ⟨hn47,hj12⟩:=needE hj12
              rcases iteE hj12 with ⟨hc49,hj12⟩ | ⟨hc49,hj12⟩
              ·obtain ⟨hn50,hj12⟩:=needE hj12
               obtain ⟨hn51,hj12⟩:=needE hj12
               obtain ⟨hn52,hj12⟩:=needE hj12
               replace hj12:=Option.some.inj hj12; subst hj12
               refine awp_post (by intro i e; cases e <;> exact Nat.le_of_ble_eq_true rfl) ?_
               let b_28:Blk:=.cells 3 ((((l8_7.drop 0).take l9x_16.toNat) ++ ([y36]:List GVoice)).map E_GVoice)
               exact yun0z [[],[],[],[0,1,2],[],[4],[],[],[6,7],[4,5,6,7,8],[0,1,2,3,4,5,6,7,8,9],[0,1,2,3,4,5,6,7,8,9,10]] [.light 0 false,.light 1 false,.light 2 false,.light 3 true,.light 4 false,.light 5 false,.light 6 false,.light 7 false,.light 8 false,.heavy 9 [3],.heavy 10 [],.light 11 false] [{},{},{},{ k:=2,n:=0,m:=l9x_16.toNat,q:=0,p:=l9x_16.toNat,u:=0,r:=l9x_16.toNat },{},{},{},{},{ k:=1,n:=l9x_16.toNat,m:=l8_7.length,q:=l9x_16.toNat,p:=(l8_7.length - l9x_16.toNat) },{ k:=2 },{ k:=1,n:=(((l8_7.drop 0).take l9x_16.toNat) ++ ([y36]:List GVoice)).length,l:=(((l8_7.drop 0).take l9x_16.toNat) ++ ([y36]:List GVoice)).map E_GVoice }] [1,5,7,8,119,120,121] [v_0,.mp 2 0 0,.ms 28 0 (((l8_7.drop 0).take l9x_16.toNat) ++ ([y36]:List GVoice)).length,.i l1_8,v_29,v_30,.i l8_121] ⟨[(28,b_28),(24,b_18),(23,b_19),(3,b_20),(2,b_22)],29⟩ _ (by kernel_rfl) (cjC (Nat.zero_le l9x_16.toNat) (cjC (Nat.le_refl l9x_16.toNat) (cjC (hn47) (cjC (Nat.zero_add 0) (cjC (Nat.sub_zero l9x_16.toNat) (cjC (Eq.refl (0:Nat)) (cjC (hn46) (cjC (Eq.refl (l9x_16.toNat)) (cjC (hn46) (cjC (Eq.refl (l9x_16.toNat)) (cjC (hn47) (cjC (Nat.le_refl l8_7.length) (cjC (Nat.zero_add l9x_16.toNat) (cjC (Eq.refl (l8_7.length - l9x_16.toNat)) (cjC (hn46) (cjC (Eq.refl (l9x_16.toNat)) (cjC (Eq.refl (l8_7.length:Nat)) (cjC (mapNilP E_GVoice (of_decide_eq_true hc49)) (cjC (leMap E_GVoice hn50) (cjC (@Eq.refl AV (.ms 26 0 l9x_16.toNat)) (cjC (Nat.zero_le l9x_16.toNat) (cjC (Nat.le_refl l9x_16.toNat) (cjC (hn47) (cjC (Nat.zero_add 0) (cjC (Nat.sub_zero l9x_16.toNat) (cjC (Eq.refl (0:Nat)) (cjC (hn46) (cjC (Eq.refl (l9x_16.toNat)) (cjC (hn46) (cjC (Eq.refl (l9x_16.toNat)) (cjC (@List.cons_ne_nil AV (E_GVoice y36) []) (cjC (leMap E_GVoice hn51) (cjC (bndPS ([y36]:List GVoice) E_GVoice hn52) (cjC (lenPS l8_7 0 l9x_16.toNat ([y36]:List GVoice) E_GVoice hn51) (cjC (appPS l8_7 0 l9x_16.toNat ([y36]:List GVoice) E_GVoice) (cj1 (fitsOne (P:=Try.prog) (t:=59) (x:=E_GVoice y36) (r:=[]) (by kernel_rfl)))))))))))))))))))))))))))))))))))))) ⟨30,pi [(30,28)],_,_,Nat.le_of_ble_eq_true rfl,mkInto (ks:=[1,5,7,8,119,120,121]) (ys:=[v_0,.mp 2 0 0,.ms 28 0 (((l8_7.drop 0).take l9x_16.toNat) ++ ([y36]:List GVoice)).length,.i l1_8,v_29,v_30,.i l8_121]) (by kernel_rfl) (by kernel_rfl) (.k (.c (cleanMap _ _ cl_GLaw09Call)) (.k (.mp rfl rfl) (.k (.ms rfl rfl) (.k (.c rfl) (.k (.c (cleanMap _ _ cl_GVoice)) (.k (.c rfl) (.k (.c rfl) .z))))))) (.k (x':=b_28) (by kernel_rfl) (.cells (.r (cleanMap _ _ cl_GVoice))) (.k rfl (.cells (.r (cleanMap _ _ cl_GTake))) (.k rfl (.cells (.r (cleanMap _ _ cl_GCLive))) (.k rfl (.cells (.r (cleanMap _ _ cl_GCDesk))) (.k rfl (.cells (.k (.a (.k (.c rfl) (.k (.c rfl) (.k (.c rfl) (.k (.c rfl) (.k (.ms rfl rfl) (.k (.c rfl) (.k (.c rfl) (.k (.c rfl) (.k (.ms rfl rfl) (.k (.c rfl) (.k (.ms rfl rfl) .z)))))))))))) .z)) .z))))),kj12 (((l8_7.drop 0).take l9x_16.toNat) ++ ([y36]:List GVoice)) rfl⟩
              ·obtain ⟨hn53,hj12⟩:=needE hj12
               obtain ⟨hn54,hj12⟩:=needE hj12
               rcases iteE hj12 with ⟨hc55,hj12⟩ | ⟨hc55,hj12⟩
               ·replace hj12:=Option.some.inj hj12; subst hj12
                refine awp_post (by intro i e; cases e <;> exact Nat.le_of_ble_eq_true rfl) ?_
                refine awp_post (by intro i e; cases e <;> exact Nat.le_of_ble_eq_true rfl) ?_
                refine yun0z [[],[],[],[0,1,2],[],[4],[],[],[6,7],[4,5,6,7,8],[0,1,2,3,4,5,6,7,8,9],[0,1,2,3,4,5,6,7,8,9,10]] [.light 0 false,.light 1 false,.light 2 false,.light 3 true,.light 4 false,.light 5 false,.light 6 false,.light 7 false,.light 8 false,.heavy 9 [3],.heavy 10 [],.light 11 false] [{},{},{},{ k:=2,n:=0,m:=l9x_16.toNat,q:=0,p:=l9x_16.toNat,u:=0,r:=l9x_16.toNat },{},{},{},{},{ k:=1,n:=l9x_16.toNat,m:=l8_7.length,q:=l9x_16.toNat,p:=(l8_7.length - l9x_16.toNat) },{ k:=1,n:=(([y36]:List GVoice) ++ ((l8_7.drop l9x_16.toNat).take (l8_7.length - l9x_16.toNat))).length,l:=(([y36]:List GVoice) ++ ((l8_7.drop l9x_16.toNat).take (l8_7.length - l9x_16.toNat))).map E_GVoice },{ k:=2 }] [1,5,7,8,119,120,121] [v_0,.mp 2 0 0,.ms 26 0 l9x_16.toNat,.i l1_8,v_29,v_30,.i l8_121] ⟨[(26,b_26),(24,b_18),(23,b_19),(3,b_20),(2,b_22)],29⟩ _ (by kernel_rfl) (cjC (Nat.zero_le l9x_16.toNat) (cjC (Nat.le_refl l9x_16.toNat) (cjC (hn47) (cjC (Nat.zero_add 0) (cjC (Nat.sub_zero l9x_16.toNat) (cjC (Eq.refl (0:Nat)) (cjC (hn46) (cjC (Eq.refl (l9x_16.toNat)) (cjC (hn46) (cjC (Eq.refl (l9x_16.toNat)) (cjC (hn47) (cjC (Nat.le_refl l8_7.length) (cjC (Nat.zero_add l9x_16.toNat) (cjC (Eq.refl (l8_7.length - l9x_16.toNat)) (cjC (hn46) (cjC (Eq.refl (l9x_16.toNat)) (cjC (Eq.refl (l8_7.length:Nat)) (cjC (mapNeP E_GVoice (of_decide_eq_false hc49)) (cjC (Eq.refl true) (cjC (bndIP ([y36]:List GVoice) l8_7 l9x_16.toNat (l8_7.length - l9x_16.toNat) E_GVoice hn54) (cjC (fitsMap (P:=Try.prog) (t:=59) (k:=3) ([y36]:List GVoice) E_GVoice (by kernel_rfl) sz_GVoice) (cjC (lenIP ([y36]:List GVoice) l8_7 l9x_16.toNat (l8_7.length - l9x_16.toNat) E_GVoice) (cjC (appIP ([y36]:List GVoice) l8_7 l9x_16.toNat (l8_7.length - l9x_16.toNat) E_GVoice) (cjC (leMap E_GVoice hn53) (cjC (@Eq.refl AV (.ms 26 0 l9x_16.toNat)) (cjC (Nat.zero_le l9x_16.toNat) (cjC (Nat.le_refl l9x_16.toNat) (cjC (hn47) (cjC (Nat.zero_add 0) (cjC (Nat.sub_zero l9x_16.toNat) (cjC (Eq.refl (0:Nat)) (cjC (hn46) (cjC (Eq.refl (l9x_16.toNat)) (cjC (hn46) (cjC (Eq.refl (l9x_16.toNat)) (cjC (mapNilM E_GVoice (of_decide_eq_true hc55)) (cj1 (mLe (([y36]:List GVoice) ++ ((l8_7.drop l9x_16.toNat).take (l8_7.length - l9x_16.toNat))) E_GVoice)))))))))))))))))))))))))))))))))))))) ?_
                refine ⟨29,pi [],(zipE [1,5,7,8,119,120,121] [v_0,.mp 2 0 0,.ms 26 0 (l8_7.take l9x_16.toNat).length,.i l1_8,v_29,v_30,.i l8_121]),⟨[(26,.cells 3 ((l8_7.take l9x_16.toNat).map E_GVoice)),(24,b_18),(23,b_19),(3,b_20),(2,b_22)],29⟩,Nat.le_of_ble_eq_true rfl,mkInto (ks:=[1,5,7,8,119,120,121]) (ys:=[v_0,.mp 2 0 0,.ms 26 0 l9x_16.toNat,.i l1_8,v_29,v_30,.i l8_121]) (by kernel_rfl) (by kernel_rfl) (.k (.c (cleanMap _ _ cl_GLaw09Call)) (.k (.mp rfl rfl) (.k (.e rfl rfl (by simp; omega)) (.k (.c rfl) (.k (.c (cleanMap _ _ cl_GVoice)) (.k (.c rfl) (.k (.c rfl) .z))))))) (.k rfl (cutT 3 l8_7 l9x_16.toNat cl_GVoice) (.k rfl (.cells (.r (cleanMap _ _ cl_GTake))) (.k rfl (.cells (.r (cleanMap _ _ cl_GCLive))) (.k rfl (.cells (.r (cleanMap _ _ cl_GCDesk))) (.k rfl (.cells (.k (.a (.k (.c rfl) (.k (.c rfl) (.k (.c rfl) (.k (.c rfl) (.k (.ms rfl rfl) (.k (.c rfl) (.k (.c rfl) (.k (.c rfl) (.k (.ms rfl rfl) (.k (.c rfl) (.k (.ms rfl rfl) .z)))))))))))) .z)) .z))))),?_⟩
                exact ⟨30,pi [(30,26)],_,_,Nat.le_of_ble_eq_true rfl,mkInto (ks:=[1,5,7,8,119,120,121]) (ys:=[v_0,.mp 2 0 0,.ms 26 0 (l8_7.take l9x_16.toNat).length,.i l1_8,v_29,v_30,.i l8_121]) (by kernel_rfl) (by kernel_rfl) (.k (.c (cleanMap _ _ cl_GLaw09Call)) (.k (.mp rfl rfl) (.k (.ms rfl rfl) (.k (.c rfl) (.k (.c (cleanMap _ _ cl_GVoice)) (.k (.c rfl) (.k (.c rfl) .z))))))) (.k rfl (.cells (.r (cleanMap _ _ cl_GVoice))) (.k rfl (.cells (.r (cleanMap _ _ cl_GTake))) (.k rfl (.cells (.r (cleanMap _ _ cl_GCLive))) (.k rfl (.cells (.r (cleanMap _ _ cl_GCDesk))) (.k rfl (.cells (.k (.a (.k (.c rfl) (.k (.c rfl) (.k (.c rfl) (.k (.c rfl) (.k (.ms rfl rfl) (.k (.c rfl) (.k (.c rfl) (.k (.c rfl) (.k (.ms rfl rfl) (.k (.c rfl) (.k (.ms rfl rfl) .z)))))))))))) .z)) .z))))),kj12 (l8_7.take l9x_16.toNat) rfl⟩
               ·obtain ⟨hn56,hj12⟩:=needE hj12
                obtain ⟨hn57,hj12⟩:=needE hj12
                replace hj12:=Option.some.inj hj12; subst hj12
                refine awp_post (by intro i e; cases e <;> exact Nat.le_of_ble_eq_true rfl) ?_
                let b_29:Blk:=.cells 3 ((((l8_7.drop 0).take l9x_16.toNat) ++ (([y36]:List GVoice) ++ ((l8_7.drop l9x_16.toNat).take (l8_7.length - l9x_16.toNat)))).map E_GVoice)
                exact yun0z [[],[],[],[0,1,2],[],[4],[],[],[6,7],[4,5,6,7,8],[0,1,2,3,4,5,6,7,8,9],[0,1,2,3,4,5,6,7,8,9,10]] [.light 0 false,.light 1 false,.light 2 false,.light 3 true,.light 4 false,.light 5 false,.light 6 false,.light 7 false,.light 8 false,.heavy 9 [3],.heavy 10 [],.light 11 false] [{},{},{},{ k:=2,n:=0,m:=l9x_16.toNat,q:=0,p:=l9x_16.toNat,u:=0,r:=l9x_16.toNat },{},{},{},{},{ k:=1,n:=l9x_16.toNat,m:=l8_7.length,q:=l9x_16.toNat,p:=(l8_7.length - l9x_16.toNat) },{ k:=1,n:=(([y36]:List GVoice) ++ ((l8_7.drop l9x_16.toNat).take (l8_7.length - l9x_16.toNat))).length,l:=(([y36]:List GVoice) ++ ((l8_7.drop l9x_16.toNat).take (l8_7.length - l9x_16.toNat))).map E_GVoice },{ k:=1,n:=(((l8_7.drop 0).take l9x_16.toNat) ++ (([y36]:List GVoice) ++ ((l8_7.drop l9x_16.toNat).take (l8_7.length - l9x_16.toNat)))).length,l:=(((l8_7.drop 0).take l9x_16.toNat) ++ (([y36]:List GVoice) ++ ((l8_7.drop l9x_16.toNat).take (l8_7.length - l9x_16.toNat)))).map E_GVoice }] [1,5,7,8,119,120,121] [v_0,.mp 2 0 0,.ms 29 0 (((l8_7.drop 0).take l9x_16.toNat) ++ (([y36]:List GVoice) ++ ((l8_7.drop l9x_16.toNat).take (l8_7.length - l9x_16.toNat)))).length,.i l1_8,v_29,v_30,.i l8_121] ⟨[(29,b_29),(24,b_18),(23,b_19),(3,b_20),(2,b_22)],30⟩ _ (by kernel_rfl) (cjC (Nat.zero_le l9x_16.toNat) (cjC (Nat.le_refl l9x_16.toNat) (cjC (hn47) (cjC (Nat.zero_add 0) (cjC (Nat.sub_zero l9x_16.toNat) (cjC (Eq.refl (0:Nat)) (cjC (hn46) (cjC (Eq.refl (l9x_16.toNat)) (cjC (hn46) (cjC (Eq.refl (l9x_16.toNat)) (cjC (hn47) (cjC (Nat.le_refl l8_7.length) (cjC (Nat.zero_add l9x_16.toNat) (cjC (Eq.refl (l8_7.length - l9x_16.toNat)) (cjC (hn46) (cjC (Eq.refl (l9x_16.toNat)) (cjC (Eq.refl (l8_7.length:Nat)) (cjC (mapNeP E_GVoice (of_decide_eq_false hc49)) (cjC (Eq.refl true) (cjC (bndIP ([y36]:List GVoice) l8_7 l9x_16.toNat (l8_7.length - l9x_16.toNat) E_GVoice hn54) (cjC (fitsMap (P:=Try.prog) (t:=59) (k:=3) ([y36]:List GVoice) E_GVoice (by kernel_rfl) sz_GVoice) (cjC (lenIP ([y36]:List GVoice) l8_7 l9x_16.toNat (l8_7.length - l9x_16.toNat) E_GVoice) (cjC (appIP ([y36]:List GVoice) l8_7 l9x_16.toNat (l8_7.length - l9x_16.toNat) E_GVoice) (cjC (leMap E_GVoice hn53) (cjC (@Eq.refl AV (.ms 26 0 l9x_16.toNat)) (cjC (Nat.zero_le l9x_16.toNat) (cjC (Nat.le_refl l9x_16.toNat) (cjC (hn47) (cjC (Nat.zero_add 0) (cjC (Nat.sub_zero l9x_16.toNat) (cjC (Eq.refl (0:Nat)) (cjC (hn46) (cjC (Eq.refl (l9x_16.toNat)) (cjC (hn46) (cjC (Eq.refl (l9x_16.toNat)) (cjC (mapNeM E_GVoice (of_decide_eq_false hc55)) (cjC (leMap E_GVoice hn56) (cjC (bndPW (([y36]:List GVoice) ++ ((l8_7.drop l9x_16.toNat).take (l8_7.length - l9x_16.toNat))) E_GVoice hn57) (cjC (lenPW l8_7 0 l9x_16.toNat (([y36]:List GVoice) ++ ((l8_7.drop l9x_16.toNat).take (l8_7.length - l9x_16.toNat))) E_GVoice hn56) (cjC (appPW l8_7 0 l9x_16.toNat (([y36]:List GVoice) ++ ((l8_7.drop l9x_16.toNat).take (l8_7.length - l9x_16.toNat))) E_GVoice) (cj1 (mLe (([y36]:List GVoice) ++ ((l8_7.drop l9x_16.toNat).take (l8_7.length - l9x_16.toNat))) E_GVoice)))))))))))))))))))))))))))))))))))))))))) ⟨30,pi [(30,29)],_,_,Nat.le_of_ble_eq_true rfl,mkInto (ks:=[1,5,7,8,119,120,121]) (ys:=[v_0,.mp 2 0 0,.ms 29 0 (((l8_7.drop 0).take l9x_16.toNat) ++ (([y36]:List GVoice) ++ ((l8_7.drop l9x_16.toNat).take (l8_7.length - l9x_16.toNat)))).length,.i l1_8,v_29,v_30,.i l8_121]) (by kernel_rfl) (by kernel_rfl) (.k (.c (cleanMap _ _ cl_GLaw09Call)) (.k (.mp rfl rfl) (.k (.ms rfl rfl) (.k (.c rfl) (.k (.c (cleanMap _ _ cl_GVoice)) (.k (.c rfl) (.k (.c rfl) .z))))))) (.k (x':=b_29) (by kernel_rfl) (.cells (.r (cleanMap _ _ cl_GVoice))) (.k rfl (.cells (.r (cleanMap _ _ cl_GTake))) (.k rfl (.cells (.r (cleanMap _ _ cl_GCLive))) (.k rfl (.cells (.r (cleanMap _ _ cl_GCDesk))) (.k rfl (.cells (.k (.a (.k (.c rfl) (.k (.c rfl) (.k (.c rfl) (.k (.c rfl) (.k (.ms rfl rfl) (.k (.c rfl) (.k (.c rfl) (.k (.c rfl) (.k (.ms rfl rfl) (.k (.c rfl) (.k (.ms rfl rfl) .z)))))))))))) .z)) .z))))),kj12 (((l8_7.drop 0).take l9x_16.toNat) ++ (([y36]:List GVoice) ++ ((l8_7.drop l9x_16.toNat).take (l8_7.length - l9x_16.toNat)))) rfl⟩
             ·rintro _ rfl
              refine inbN ?_
              refine thenN ?_
              refine run0z [] [1,5,7,8,119,120,121] [v_0,.mp 2 0 0,.ms 30 0 j12_7.length,.i l1_8,v_29,v_30,.i (wr (l8_121 + 1))] ⟨[(30,.cells 3 (j12_7.map E_GVoice)),(24,b_18),(23,b_19),(3,b_20),(2,b_22)],31⟩ _ (by kernel_rfl) cj0 ?_
              replace hl8:=Option.some.inj hl8; subst hl8
              exact ⟨_,rfl,pi [(26,30)],mkInto (ks:=[1,5,7,8,119,120,121]) (ys:=[v_0,.mp 2 0 0,.ms 30 0 j12_7.length,.i l1_8,v_29,v_30,.i (wr (l8_121 + 1))]) (by kernel_rfl) (by kernel_rfl) (.k (.c (cleanMap _ _ cl_GLaw09Call)) (.k (.mp rfl rfl) (.k (.ms rfl rfl) (.k (.c rfl) (.k (.c (cleanMap _ _ cl_GVoice)) (.k (.c rfl) (.k (.c rfl) .z))))))) (.k rfl (.cells (.r (cleanMap _ _ cl_GVoice))) (.k rfl (.cells (.r (cleanMap _ _ cl_GTake))) (.k rfl (.cells (.r (cleanMap _ _ cl_GCLive))) (.k rfl (.cells (.r (cleanMap _ _ cl_GCDesk))) (.k rfl (.cells (.k (.a (.k (.c rfl) (.k (.c rfl) (.k (.c rfl) (.k (.c rfl) (.k (.ms rfl rfl) (.k (.c rfl) (.k (.c rfl) (.k (.c rfl) (.k (.ms rfl rfl) (.k (.c rfl) (.k (.ms rfl rfl) .z)))))))))))) .z)) .z)))))⟩
         ·refine run_cF 122 (c7 103) (c7 104) (decide (l8_121 < (j3_h10.begin.length:Int))) hc35 (by kernel_rfl) (by kernel_rfl) ?_
          replace hl8:=Option.some.inj hl8; subst hl8
          have hr:=rl8 _ rfl
          subst hr
          refine awp_p [1,5,7,8] [26,24,23,3,2] (zipE [1,5,7,8] [v_0,.mp 2 0 0,v_31,.i l1_8]) s_11 (by kernel_rfl) (?_)
          refine run_e 7 (by kernel_rfl) ?_
          refine thenE ?_
          refine ⟨⟨_,rfl⟩,?_⟩
          refine inbE ?_
          exact kl8 l8_7 rfl
        ·rintro l8x_7 rfl
         replace hl1:=elimL hl1
         refine thenN ?_
         obtain ⟨r58,hr58,hl1⟩:=bindE hl1
         obtain ⟨r59,hr59,hl1⟩:=bindE hl1
         let v_32:AV:=.sl false (r58.map E_GVoice)
         let v_33:AV:=.ms 26 0 l8x_7.length
         let b_30:Blk:=.cells 3 (l8x_7.map E_GVoice)
         let s_13:St:=⟨[(26,b_30),(24,b_18),(23,b_19),(3,b_20),(2,b_22)],28⟩
         refine run1z (c7 134) [{},{ c:=some (v_32,s_13) },{},{ c:=some (.bool r59,s_13) }] [1,5,7,8,201] [v_0,.mp 2 0 0,v_33,.i l1_8,.bool (!r59)] s_13 _ (by kernel_rfl) (cjC (callF (f23_1_ok (⟨(⟨j3_h2_0⟩:GCClock),j3_h2_1,r4b.1,j3_h2_3,j3_h2_4,j3_h2_5,j3_h2_6,j3_h2_7,(⟨j3_h2_8⟩:GCShelf_live),j3_h2_10⟩:GCPlayer) _ hr58) [(0,2),(1,3),(2,23),(3,24)] [(24,3),(23,2),(3,1),(2,0)] [26] [.mp 2 0 0] ⟨[(26,b_30),(24,b_18),(23,b_19),(3,b_20),(2,b_22)],27⟩ (v_32) s_13 (by kernel_rfl) (.k (.mp rfl rfl) .z) (.c (cleanMap _ _ cl_GVoice)) (.k rfl (.cells (.r (cleanMap _ _ cl_GTake))) (.k rfl (.cells (.r (cleanMap _ _ cl_GCLive))) (.k rfl (.cells (.r (cleanMap _ _ cl_GCDesk))) (.k rfl (.cells (.k (.a (.k (.c rfl) (.k (.c rfl) (.k (.c rfl) (.k (.c rfl) (.k (.ms rfl rfl) (.k (.c rfl) (.k (.c rfl) (.k (.c rfl) (.k (.ms rfl rfl) (.k (.c rfl) (.k (.ms rfl rfl) .z)))))))))))) .z)) .z)))) (.f rfl (by kernel_rfl) (.d (x':=b_18) rfl (by kernel_rfl) (.cells (.r (cleanMap _ _ cl_GTake))) (.d (x':=b_19) rfl (by kernel_rfl) (.cells (.r (cleanMap _ _ cl_GCLive))) (.d (x':=b_20) rfl (by kernel_rfl) (.cells (.r (cleanMap _ _ cl_GCDesk))) (.d (x':=.cells 11 [.agg [.i j3_h2_0,.i j3_h2_1,.i r4b.1,.bool j3_h2_3,.ms 1 0 j3_h2_4.length,.i j3_h2_5,.i j3_h2_6,.i j3_h2_7,.ms 2 0 j3_h2_8.length,.fn 31 [],.ms 3 0 j3_h2_10.length]]) rfl (by kernel_rfl) (.cells (.k (.a (.k (.c rfl) (.k (.c rfl) (.k (.c rfl) (.k (.c rfl) (.k (.ms rfl rfl) (.k (.c rfl) (.k (.c rfl) (.k (.c rfl) (.k (.ms rfl rfl) (.k (.c rfl) (.k (.ms rfl rfl) .z)))))))))))) .z)) .z)))))) (cj1 (callF (f26_1_ok r58 l8x_7 _ hr59) [(0,26)] [(26,0)] [24,23,3,2] [v_32,v_33] s_13 (.bool r59) s_13 (by kernel_rfl) (.k (.c (cleanMap _ _ cl_GVoice)) (.k (.ms rfl rfl) .z)) (.c rfl) (.k rfl (.cells (.r (cleanMap _ _ cl_GVoice))) .z) (.d (x':=b_30) rfl (by kernel_rfl) (.cells (.r (cleanMap _ _ cl_GVoice))) (.f rfl (by kernel_rfl) (.f rfl (by kernel_rfl) (.f rfl (by kernel_rfl) (.f rfl (by kernel_rfl) .z)))))))) ?_
         rcases iteE hl1 with ⟨hc60,hl1⟩ | ⟨hc60,hl1⟩
         ·refine run_cT 201 (c7 135) (c7 138) (!r59) hc60 (by kernel_rfl) (by kernel_rfl) ?_
          refine run1z (c7 137) [] [4] [.bool false] ⟨[],28⟩ _ (by kernel_rfl) cj0 ?_
          replace hl1:=Option.some.inj hl1; subst hl1
          have hr:=rl1 _ rfl
          subst hr
          replace h:=elimR h
          refine run_t (by kernel_rfl) ?_
          refine inbR ?_
          refine thenR ?_
          refine ⟨⟨_,rfl⟩,?_⟩
          refine inbR ?_
          refine thenR ?_
          replace h:=Option.some.inj h; subst h
          exact fin_r (by kernel_rfl) rfl
         ·refine run_cF 201 (c7 135) (c7 138) (!r59) hc60 (by kernel_rfl) (by kernel_rfl) ?_
          refine run_k (by kernel_rfl) ?_
          refine inbN ?_
          refine thenN ?_
          refine run0z [] [1,5,7,8] [v_0,.mp 2 0 0,v_33,.i (wr (l1_8 + 1))] s_13 _ (by kernel_rfl) cj0 ?_
          replace hl1:=Option.some.inj hl1; subst hl1
          exact ⟨_,rfl,pi [(6,23),(7,24),(8,26)],mkInto (ks:=[1,5,7,8]) (ys:=[v_0,.mp 2 0 0,v_33,.i (wr (l1_8 + 1))]) (by kernel_rfl) (by kernel_rfl) (.k (.c (cleanMap _ _ cl_GLaw09Call)) (.k (.mp rfl rfl) (.k (.ms rfl rfl) (.k (.c rfl) .z)))) (.k rfl (.cells (.r (cleanMap _ _ cl_GVoice))) (.k rfl (.cells (.r (cleanMap _ _ cl_GTake))) (.k rfl (.cells (.r (cleanMap _ _ cl_GCLive))) (.k rfl (.cells (.r (cleanMap _ _ cl_GCDesk))) (.k rfl (.cells (.k (.a (.k (.c rfl) (.k (.c rfl) (.k (.c rfl) (.k (.c rfl) (.k (.ms rfl rfl) (.k (.c rfl) (.k (.c rfl) (.k (.c rfl) (.k (.ms rfl rfl) (.k (.c rfl) (.k (.ms rfl rfl) .z)))))))))))) .z)) .z)))))⟩
     ·refine run_cF 36 (c7 31) (c7 32) j2_36 hc8 (by kernel_rfl) (by kernel_rfl) ?_
      replace hl1:=Option.some.inj hl1; subst hl1
      have hr:=rl1 _ rfl
      subst hr
      refine awp_p [] [] (zipE [] []) ⟨[],9⟩ (by kernel_rfl) (?_)
      refine run_e 0 (by kernel_rfl) ?_
      refine thenE ?_
      refine ⟨⟨_,rfl⟩,?_⟩
      refine inbE ?_
      exact kl1 () rfl
   ·rintro ⟨⟩ rfl
    replace h:=elimL h
    refine thenN ?_
    obtain ⟨r61,hr61,h⟩:=bindE h
    refine run1z (c7 142) [{ c:=some (.bool r61,⟨[],9⟩) }] [4] [.bool r61] ⟨[],9⟩ _ (by kernel_rfl) (cj1 (f10_ok  _ hr61 ⟨[],9⟩)) ?_
    refine run_t (by kernel_rfl) ?_
    replace h:=Option.some.inj h; subst h
    exact fin_r (by kernel_rfl) rfl
end Go.Proofs.Ytpljabnngpnieaa
