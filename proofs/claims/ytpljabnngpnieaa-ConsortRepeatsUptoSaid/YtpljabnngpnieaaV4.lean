/-
 Functions of the program as Lean functions,and the walks. Written by a program of ours.
-/
import Derived.Test.YtpljabnngpnieaaV32
import Derived.Test.YtpljabnngpnieaaV11
import Derived.Test.YtpljabnngpnieaaV16
import Derived.Test.YtpljabnngpnieaaV14
import Derived.Test.YtpljabnngpnieaaV8
import Derived.Test.YtpljabnngpnieaaV18
import Derived.Test.YtpljabnngpnieaaV21
namespace Go.Proofs.Ytpljabnngpnieaa
open Go Go.Am
set_option maxRecDepth 100000
set_option linter.all false
noncomputable def c4 (k:Nat):Code:=nthC (subs (Try.f4.body.getD .skip)) k
def f4 (a0:GConsort) (a1_0:Int) (a1_1:Int) (a2:Int):Option Bool:=(f9 a0.pieces).bind fun r1=>bif r1 then ((f10).bind fun r3=>some r3) else ((f11 a0).bind (Sum.elim (fun r4a=>(f14 a0).bind fun r5=>((bif (decide (r4a ≠ 0)) then (some true) else (some (decide (r5 ≤ 0)))):Option Bool).bind fun (j1_35:Bool)=>bif j1_35 then ((f10).bind fun r8=>some r8) else ((f12 a1_0 r5).bind fun r9=>(f12 a1_1 (wr (r5 - r9))).bind fun r10=>(f12 a2 6).bind fun r11=>(f18 r9 (wr ((wr (r9 + 1)) + r10)) r11).bind fun r12=>bif (decide (r12 ≠ 0)) then (some false) else ((f16).bind fun r14=>((bif (!r14.2) then (some true) else ((f19).bind fun r16=>some (decide (r16 ≠ (wr (r5 + (wr (r11 * (wr ((wr ((wr (r9 + 1)) + r10)) - r9)))))))))):Option Bool).bind fun (j2_76:Bool)=>bif j2_76 then (some false) else ((f11 a0).bind (Sum.elim (fun r18a=>((bif (decide (r18a ≠ 0)) then (some true) else ((f18 0 r5 r11).bind fun r20=>some (decide (r20 ≠ 0)))):Option Bool).bind fun (j3_90:Bool)=>bif j3_90 then (some false) else ((f16).bind fun r22=>bif (!r22.2) then (some false) else ((f20).bind fun r24=>need ((wr (r11 + 1)) ≠ 0) <| bif (decide ((Int.tmod (r24.length:Int) (wr (r11 + 1))) ≠ 0)) then (some false) else ((loopN (σ:=Int) (τ:=(Unit ⊕ Bool)) (fun (l4_18:Int)=>bif (decide (l4_18 ≤ r11)) then (need (0 ≤ (wr (l4_18 * (wr (Int.tdiv (r24.length:Int) (wr (r11 + 1))))))) <| need (0 ≤ (wr ((wr (l4_18 + 1)) * (wr (Int.tdiv (r24.length:Int) (wr (r11 + 1))))))) <| need ((wr (l4_18 * (wr (Int.tdiv (r24.length:Int) (wr (r11 + 1)))))).toNat ≤ (wr ((wr (l4_18 + 1)) * (wr (Int.tdiv (r24.length:Int) (wr (r11 + 1)))))).toNat) <| need ((wr ((wr (l4_18 + 1)) * (wr (Int.tdiv (r24.length:Int) (wr (r11 + 1)))))).toNat ≤ r24.length) <| (f21 a0 ((r24.take (wr ((wr (l4_18 + 1)) * (wr (Int.tdiv (r24.length:Int) (wr (r11 + 1)))))).toNat).drop (wr (l4_18 * (wr (Int.tdiv (r24.length:Int) (wr (r11 + 1)))))).toNat) (-1) (wr (l4_18 * r5))).bind fun r32=>bif (!r32) then (some (.inr (.inr false))) else (some (.inl (wr (l4_18 + 1))))) else (some (.inr (.inl ())))) FUEL 0).bind (Sum.elim (fun (_:Unit)=>(f10).bind fun r34=>some r34) some))))) (fun r18b=>(f18_1 (⟨(⟨0⟩:GCClock),0,r18b.1,true,r18b.2,0,0,0,(⟨([]:List GCLive)⟩:GCShelf_live),([]:List GTake)⟩:GCPlayer) 0 r5 r11).bind fun r35=>bif (decide (r35.1 ≠ 0)) then (some false) else ((f16_1 (⟨(⟨0⟩:GCClock),0,r18b.1,true,r18b.2,r35.2.1,r35.2.2.1,r35.2.2.2,(⟨([]:List GCLive)⟩:GCShelf_live),([]:List GTake)⟩:GCPlayer)).bind fun r37=>bif (!r37.2.1) then (some false) else ((f20_1 (⟨(⟨r37.2.2.1⟩:GCClock),r37.2.2.2.1,r18b.1,r37.2.2.2.2.1,r37.2.2.2.2.2.1,r35.2.1,r35.2.2.1,r37.2.2.2.2.2.2.1,(⟨r37.2.2.2.2.2.2.2.1⟩:GCShelf_live),r37.2.2.2.2.2.2.2.2⟩:GCPlayer)).bind fun r39=>need ((wr (r11 + 1)) ≠ 0) <| bif (decide ((Int.tmod (r39.length:Int) (wr (r11 + 1))) ≠ 0)) then (some false) else ((loopN (σ:=Int) (τ:=(Unit ⊕ Bool)) (fun (l5_18:Int)=>bif (decide (l5_18 ≤ r11)) then (need (0 ≤ (wr (l5_18 * (wr (Int.tdiv (r39.length:Int) (wr (r11 + 1))))))) <| need (0 ≤ (wr ((wr (l5_18 + 1)) * (wr (Int.tdiv (r39.length:Int) (wr (r11 + 1))))))) <| need ((wr (l5_18 * (wr (Int.tdiv (r39.length:Int) (wr (r11 + 1)))))).toNat ≤ (wr ((wr (l5_18 + 1)) * (wr (Int.tdiv (r39.length:Int) (wr (r11 + 1)))))).toNat) <| need ((wr ((wr (l5_18 + 1)) * (wr (Int.tdiv (r39.length:Int) (wr (r11 + 1)))))).toNat ≤ r39.length) <| (f21 a0 ((r39.take (wr ((wr (l5_18 + 1)) * (wr (Int.tdiv (r39.length:Int) (wr (r11 + 1)))))).toNat).drop (wr (l5_18 * (wr (Int.tdiv (r39.length:Int) (wr (r11 + 1)))))).toNat) (-1) (wr (l5_18 * r5))).bind fun r47=>bif (!r47) then (some (.inr (.inr false))) else (some (.inl (wr (l5_18 + 1))))) else (some (.inr (.inl ())))) FUEL 0).bind (Sum.elim (fun (_:Unit)=>(f10).bind fun r49=>some r49) some)))))))))) (fun r4b=>(f14 a0).bind fun r50=>bif (decide (r50 ≤ 0)) then ((f10).bind fun r52=>some r52) else ((f12 a1_0 r50).bind fun r53=>(f12 a1_1 (wr (r50 - r53))).bind fun r54=>(f12 a2 6).bind fun r55=>(f18_1 (⟨(⟨0⟩:GCClock),0,r4b.1,true,r4b.2,0,0,0,(⟨([]:List GCLive)⟩:GCShelf_live),([]:List GTake)⟩:GCPlayer) r53 (wr ((wr (r53 + 1)) + r54)) r55).bind fun r56=>bif (decide (r56.1 ≠ 0)) then (some false) else ((f16_1 (⟨(⟨0⟩:GCClock),0,r4b.1,true,r4b.2,r56.2.1,r56.2.2.1,r56.2.2.2,(⟨([]:List GCLive)⟩:GCShelf_live),([]:List GTake)⟩:GCPlayer)).bind fun r58=>((bif (!r58.2.1) then (some true) else ((f19_1 (⟨(⟨r58.2.2.1⟩:GCClock),r58.2.2.2.1,r4b.1,r58.2.2.2.2.1,r58.2.2.2.2.2.1,r56.2.1,r56.2.2.1,r58.2.2.2.2.2.2.1,(⟨r58.2.2.2.2.2.2.2.1⟩:GCShelf_live),r58.2.2.2.2.2.2.2.2⟩:GCPlayer)).bind fun r60=>some (decide (r58.2.2.1 ≠ (wr (r50 + (wr (r55 * (wr ((wr ((wr (r53 + 1)) + r54)) - r53)))))))))):Option Bool).bind fun (j6_76:Bool)=>bif j6_76 then (some false) else ((f11 a0).bind (Sum.elim (fun r62a=>((bif (decide (r62a ≠ 0)) then (some true) else ((f18 0 r50 r55).bind fun r64=>some (decide (r64 ≠ 0)))):Option Bool).bind fun (j7_90:Bool)=>bif j7_90 then (some false) else ((f16).bind fun r66=>bif (!r66.2) then (some false) else ((f20).bind fun r68=>need ((wr (r55 + 1)) ≠ 0) <| bif (decide ((Int.tmod (r68.length:Int) (wr (r55 + 1))) ≠ 0)) then (some false) else ((loopN (σ:=Int) (τ:=(Unit ⊕ Bool)) (fun (l8_18:Int)=>bif (decide (l8_18 ≤ r55)) then (need (0 ≤ (wr (l8_18 * (wr (Int.tdiv (r68.length:Int) (wr (r55 + 1))))))) <| need (0 ≤ (wr ((wr (l8_18 + 1)) * (wr (Int.tdiv (r68.length:Int) (wr (r55 + 1))))))) <| need ((wr (l8_18 * (wr (Int.tdiv (r68.length:Int) (wr (r55 + 1)))))).toNat ≤ (wr ((wr (l8_18 + 1)) * (wr (Int.tdiv (r68.length:Int) (wr (r55 + 1)))))).toNat) <| need ((wr ((wr (l8_18 + 1)) * (wr (Int.tdiv (r68.length:Int) (wr (r55 + 1)))))).toNat ≤ r68.length) <| (f21 a0 ((r68.take (wr ((wr (l8_18 + 1)) * (wr (Int.tdiv (r68.length:Int) (wr (r55 + 1)))))).toNat).drop (wr (l8_18 * (wr (Int.tdiv (r68.length:Int) (wr (r55 + 1)))))).toNat) (-1) (wr (l8_18 * r50))).bind fun r76=>bif (!r76) then (some (.inr (.inr false))) else (some (.inl (wr (l8_18 + 1))))) else (some (.inr (.inl ())))) FUEL 0).bind (Sum.elim (fun (_:Unit)=>(f10).bind fun r78=>some r78) some))))) (fun r62b=>(f18_1 (⟨(⟨0⟩:GCClock),0,r62b.1,true,r62b.2,0,0,0,(⟨([]:List GCLive)⟩:GCShelf_live),([]:List GTake)⟩:GCPlayer) 0 r50 r55).bind fun r79=>bif (decide (r79.1 ≠ 0)) then (some false) else ((f16_1 (⟨(⟨0⟩:GCClock),0,r62b.1,true,r62b.2,r79.2.1,r79.2.2.1,r79.2.2.2,(⟨([]:List GCLive)⟩:GCShelf_live),([]:List GTake)⟩:GCPlayer)).bind fun r81=>bif (!r81.2.1) then (some false) else ((f20_1 (⟨(⟨r81.2.2.1⟩:GCClock),r81.2.2.2.1,r62b.1,r81.2.2.2.2.1,r81.2.2.2.2.2.1,r79.2.1,r79.2.2.1,r81.2.2.2.2.2.2.1,(⟨r81.2.2.2.2.2.2.2.1⟩:GCShelf_live),r81.2.2.2.2.2.2.2.2⟩:GCPlayer)).bind fun r83=>need ((wr (r55 + 1)) ≠ 0) <| bif (decide ((Int.tmod (r83.length:Int) (wr (r55 + 1))) ≠ 0)) then (some false) else ((loopN (σ:=Int) (τ:=(Unit ⊕ Bool)) (fun (l9_18:Int)=>bif (decide (l9_18 ≤ r55)) then (need (0 ≤ (wr (l9_18 * (wr (Int.tdiv (r83.length:Int) (wr (r55 + 1))))))) <| need (0 ≤ (wr ((wr (l9_18 + 1)) * (wr (Int.tdiv (r83.length:Int) (wr (r55 + 1))))))) <| need ((wr (l9_18 * (wr (Int.tdiv (r83.length:Int) (wr (r55 + 1)))))).toNat ≤ (wr ((wr (l9_18 + 1)) * (wr (Int.tdiv (r83.length:Int) (wr (r55 + 1)))))).toNat) <| need ((wr ((wr (l9_18 + 1)) * (wr (Int.tdiv (r83.length:Int) (wr (r55 + 1)))))).toNat ≤ r83.length) <| (f21 a0 ((r83.take (wr ((wr (l9_18 + 1)) * (wr (Int.tdiv (r83.length:Int) (wr (r55 + 1)))))).toNat).drop (wr (l9_18 * (wr (Int.tdiv (r83.length:Int) (wr (r55 + 1)))))).toNat) (-1) (wr (l9_18 * r50))).bind fun r91=>bif (!r91) then (some (.inr (.inr false))) else (some (.inl (wr (l9_18 + 1))))) else (some (.inr (.inl ())))) FUEL 0).bind (Sum.elim (fun (_:Unit)=>(f10).bind fun r93=>some r93) some))))))))))))
theorem f4_ok (a0:GConsort) (a1_0:Int) (a1_1:Int) (a2:Int) (r:Bool) (h:f4 a0 a1_0 a1_1 a2 = some r):APure Try.prog 4 [E_GConsort a0,.agg [.i a1_0,.i a1_1],.i a2] (.bool r):=by
 refine apure (clK (cl_GConsort a0) (clK (clK rfl (clK rfl clZ)) (clK rfl clZ))) rfl ?_
 let w_0:AV:=.agg [.i a1_0,.i a1_1]
 refine run_f 132 [.tmp 6] (c4 0) (zipE [0,1,2] [E_GConsort a0,w_0,.i a2]) (by kernel_rfl) (by kernel_rfl) (by kernel_rfl) rfl ?_
 unfold f4 at h
 let b_0:Blk:=.cells 1 [E_GConsort a0]
 let s_0:St:=⟨[(1,.cells 2 [w_0]),(0,b_0)],2⟩
 refine run1z (c4 2) [] [2,3,4] [.i a2,.mp 0 0 0,.mp 1 0 0] s_0 _ (by kernel_rfl) cj0 ?_
 refine run_s (c4 3) (c4 10) (by kernel_rfl) ?_
 obtain ⟨r1,hr1,h⟩:=bindE h
 refine run1z (c4 5) [{},{},{ c:=some (.bool r1,s_0) }] [2,3,4,21] [.i a2,.mp 0 0 0,.mp 1 0 0,.bool r1] s_0 _ (by kernel_rfl) (cj1 (f9_ok a0.pieces _ hr1 s_0)) ?_
 rcases iteE h with ⟨hc2,h⟩ | ⟨hc2,h⟩
 ·refine run_cT 21 (c4 6) (c4 9) r1 hc2 (by kernel_rfl) (by kernel_rfl) ?_
  obtain ⟨r3,hr3,h⟩:=bindE h
  refine run1z (c4 8) [{ c:=some (.bool r3,s_0) }] [6] [.bool r3] ⟨[],2⟩ _ (by kernel_rfl) (cj1 (f10_ok  _ hr3 s_0)) ?_
  refine run_t (by kernel_rfl) ?_
  refine thenR ?_
  replace h:=Option.some.inj h; subst h
  exact fin_r (by kernel_rfl) rfl
 ·refine run_cF 21 (c4 6) (c4 9) r1 hc2 (by kernel_rfl) (by kernel_rfl) ?_
  refine run_k (by kernel_rfl) ?_
  refine thenN ?_
  obtain ⟨r4,hr4,h⟩:=bindE h
  rcases r4 with r4a | r4b
  ·replace h:=elimL h
   let s_1:St:=⟨[(1,.cells 2 [w_0]),(0,b_0)],6⟩
   refine run1z (c4 12) [{},{ c:=some (.tup [.nilp,.i r4a],s_1) }] [2,3,4,7,8] [.i a2,.mp 0 0 0,.mp 1 0 0,.nilp,.i r4a] s_1 _ (by kernel_rfl) (cj1 (callF (f11_ok a0 (.inl r4a) hr4) [] [] [1,0] [E_GConsort a0] s_0 (.tup [.nilp,.i r4a]) s_1 (by kernel_rfl) (.k (.c (cl_GConsort a0)) .z) (.t (.k (.c rfl) (.k (.c rfl) .z))) .z (.f rfl (by kernel_rfl) (.f rfl (by kernel_rfl) .z)))) ?_
   obtain ⟨r5,hr5,h⟩:=bindE h
   refine run1z (c4 14) [{},{ c:=some (.i r5,s_1) }] [2,3,4,7,8,9] [.i a2,.mp 0 0 0,.mp 1 0 0,.nilp,.i r4a,.i r5] s_1 _ (by kernel_rfl) (cj1 (f14_ok a0 _ hr5 s_1)) ?_
   refine run_s (c4 15) (c4 22) (by kernel_rfl) ?_
   obtain ⟨j1_35,hj1,h⟩:=bindE h
   refine run_gq (c4 17) (fun (j1_35:Bool)=>(zipE [2,3,4,7,9,35] [.i a2,.mp 0 0 0,.mp 1 0 0,.nilp,.i r5,.bool j1_35])) (fun (j1_35:Bool)=>s_1) (fun j=>j1_35 = j) (fun kj1=>?_) ?_
   ·rcases iteE hj1 with ⟨hc6,hj1⟩ | ⟨hc6,hj1⟩
    ·replace hj1:=Option.some.inj hj1; subst hj1
     exact run1z (c4 17) [{},{},{},{ g:=false },{ g:=false },{ k:=1,b:=true }] [2,3,4,7,9,35] [.i a2,.mp 0 0 0,.mp 1 0 0,.nilp,.i r5,.bool true] s_1 _ (by kernel_rfl) (cjC (hc6) (cjC (hc6) (cj1 (hc6)))) (kj1 true rfl)
    ·replace hj1:=Option.some.inj hj1; subst hj1
     exact run1z (c4 17) [{},{},{},{},{},{ k:=1,b:=false }] [2,3,4,7,9,35] [.i a2,.mp 0 0 0,.mp 1 0 0,.nilp,.i r5,.bool (decide (r5 ≤ 0))] s_1 _ (by kernel_rfl) (cjC (hc6) (cjC (hc6) (cj1 (hc6)))) (kj1 (decide (r5 ≤ 0)) rfl)
   ·rintro _ rfl
    rcases iteE h with ⟨hc7,h⟩ | ⟨hc7,h⟩
    ·refine run_cT 35 (c4 18) (c4 21) j1_35 hc7 (by kernel_rfl) (by kernel_rfl) ?_
     obtain ⟨r8,hr8,h⟩:=bindE h
     refine run1z (c4 20) [{ c:=some (.bool r8,s_1) }] [6] [.bool r8] ⟨[],6⟩ _ (by kernel_rfl) (cj1 (f10_ok  _ hr8 s_1)) ?_
     refine run_t (by kernel_rfl) ?_
     refine thenR ?_
     replace h:=Option.some.inj h; subst h
     exact fin_r (by kernel_rfl) rfl
    ·refine run_cF 35 (c4 18) (c4 21) j1_35 hc7 (by kernel_rfl) (by kernel_rfl) ?_
     refine run_k (by kernel_rfl) ?_
     refine thenN ?_
     obtain ⟨r9,hr9,h⟩:=bindE h
     refine run1z (c4 24) [{},{},{},{ c:=some (.i r9,s_1) }] [2,3,4,7,9,10] [.i a2,.mp 0 0 0,.mp 1 0 0,.nilp,.i r5,.i r9] s_1 _ (by kernel_rfl) (cj1 (f12_ok a1_0 r5 _ hr9 s_1)) ?_
     obtain ⟨r10,hr10,h⟩:=bindE h
     let v_0:AV:=.i (wr ((wr (r9 + 1)) + r10))
     refine run1z (c4 26) [{},{},{},{},{},{},{},{ c:=some (.i r10,s_1) }] [2,3,7,9,10,11] [.i a2,.mp 0 0 0,.nilp,.i r5,.i r9,v_0] ⟨[(0,b_0)],6⟩ _ (by kernel_rfl) (cj1 (f12_ok a1_1 (wr (r5 - r9)) _ hr10 s_1)) ?_
     obtain ⟨r11,hr11,h⟩:=bindE h
     refine run1z (c4 28) [{},{ c:=some (.i r11,⟨[(0,b_0)],6⟩) }] [2,3,7,9,10,11] [.i r11,.mp 0 0 0,.nilp,.i r5,.i r9,v_0] ⟨[(0,b_0)],6⟩ _ (by kernel_rfl) (cj1 (f12_ok a2 6 _ hr11 ⟨[(0,b_0)],6⟩)) ?_
     refine run_s (c4 29) (c4 36) (by kernel_rfl) ?_
     obtain ⟨r12,hr12,h⟩:=bindE h
     refine run1z (c4 31) [{},{},{},{},{ c:=some (.i r12,⟨[(0,b_0)],6⟩) }] [2,3,7,9,10,11,57] [.i r11,.mp 0 0 0,.nilp,.i r5,.i r9,v_0,.bool (decide (r12 ≠ 0))] ⟨[(0,b_0)],6⟩ _ (by kernel_rfl) (cj1 (APure.co (ok:=fun _=>false) (π:=id) (args:=[.nilp,.i r9,v_0,.i r11]) (f18_ok r9 (wr ((wr (r9 + 1)) + r10)) r11 _ hr12) (.k (.c rfl) (.k (.c rfl) (.k (.c rfl) (.k (.c rfl) .z)))) ⟨[(0,b_0)],6⟩)) ?_
     rcases iteE h with ⟨hc13,h⟩ | ⟨hc13,h⟩
     ·refine run_cT 57 (c4 32) (c4 35) (decide (r12 ≠ 0)) hc13 (by kernel_rfl) (by kernel_rfl) ?_
      refine run1z (c4 34) [] [6] [.bool false] ⟨[],6⟩ _ (by kernel_rfl) cj0 ?_
      refine run_t (by kernel_rfl) ?_
      refine thenR ?_
      replace h:=Option.some.inj h; subst h
      exact fin_r (by kernel_rfl) rfl
     ·refine run_cF 57 (c4 32) (c4 35) (decide (r12 ≠ 0)) hc13 (by kernel_rfl) (by kernel_rfl) ?_
      refine run_k (by kernel_rfl) ?_
      refine thenN ?_
      refine run_s (c4 37) (c4 46) (by kernel_rfl) ?_
      obtain ⟨r14,hr14,h⟩:=bindE h
      refine run1z (c4 39) [{},{ c:=some (.tup [.sl false (r14.1.map E_GFrame),.bool r14.2],⟨[(0,b_0)],6⟩) }] [2,3,7,9,10,11,13] [.i r11,.mp 0 0 0,.nilp,.i r5,.i r9,v_0,.bool r14.2] ⟨[(0,b_0)],6⟩ _ (by kernel_rfl) (cj1 (APure.co (ok:=fun _=>false) (π:=id) (args:=[.nilp]) (f16_ok  _ hr14) (.k (.c rfl) .z) ⟨[(0,b_0)],6⟩)) ?_
      obtain ⟨j2_76,hj2,h⟩:=bindE h
      refine run_gq (c4 41) (fun (j2_76:Bool)=>(zipE [2,3,9,76] [.i r11,.mp 0 0 0,.i r5,.bool j2_76])) (fun (j2_76:Bool)=>⟨[(0,b_0)],6⟩) (fun j=>j2_76 = j) (fun kj2=>?_) ?_
      ·rcases iteE hj2 with ⟨hc15,hj2⟩ | ⟨hc15,hj2⟩
       ·replace hj2:=Option.some.inj hj2; subst hj2
        exact run1z (c4 41) [{},{},{},{ g:=false },{ g:=false },{ g:=false },{ g:=false },{ g:=false },{ g:=false },{ g:=false },{ g:=false },{ g:=false },{ g:=false },{ k:=1,b:=true }] [2,3,9,76] [.i r11,.mp 0 0 0,.i r5,.bool true] ⟨[(0,b_0)],6⟩ _ (by kernel_rfl) (cjC (hc15) (cjC (hc15) (cjC (hc15) (cjC (hc15) (cjC (hc15) (cjC (hc15) (cjC (hc15) (cjC (hc15) (cjC (hc15) (cjC (hc15) (cj1 (hc15)))))))))))) (kj2 true rfl)
       ·obtain ⟨r16,hr16,hj2⟩:=bindE hj2
        replace hj2:=Option.some.inj hj2; subst hj2
        exact run1z (c4 41) [{},{},{},{},{ c:=some (.i r16,⟨[(0,b_0)],6⟩) },{},{},{},{},{},{},{},{},{ k:=1,b:=false }] [2,3,9,76] [.i r11,.mp 0 0 0,.i r5,.bool (decide (r16 ≠ (wr (r5 + (wr (r11 * (wr ((wr ((wr (r9 + 1)) + r10)) - r9))))))))] ⟨[(0,b_0)],6⟩ _ (by kernel_rfl) (cjC (hc15) (cjC (hc15) (cjC (APure.co (ok:=fun _=>false) (π:=id) (args:=[.nilp]) (f19_ok  _ hr16) (.k (.c rfl) .z) ⟨[(0,b_0)],6⟩) (cjC (hc15) (cjC (hc15) (cjC (hc15) (cjC (hc15) (cjC (hc15) (cjC (hc15) (cjC (hc15) (cjC (hc15) (cj1 (hc15))))))))))))) (kj2 (decide (r16 ≠ (wr (r5 + (wr (r11 * (wr ((wr ((wr (r9 + 1)) + r10)) - r9)))))))) rfl)
      ·rintro _ rfl
       rcases iteE h with ⟨hc17,h⟩ | ⟨hc17,h⟩
       ·refine run_cT 76 (c4 42) (c4 45) j2_76 hc17 (by kernel_rfl) (by kernel_rfl) ?_
        refine run1z (c4 44) [] [6] [.bool false] ⟨[],6⟩ _ (by kernel_rfl) cj0 ?_
        refine run_t (by kernel_rfl) ?_
        refine thenR ?_
        replace h:=Option.some.inj h; subst h
        exact fin_r (by kernel_rfl) rfl
       ·refine run_cF 76 (c4 42) (c4 45) j2_76 hc17 (by kernel_rfl) (by kernel_rfl) ?_
        refine run_k (by kernel_rfl) ?_
        refine thenN ?_
        obtain ⟨r18,hr18,h⟩:=bindE h
        rcases r18 with r18a | r18b
        ·replace h:=elimL h
         refine run1z (c4 48) [{},{ c:=some (.tup [.nilp,.i r18a],⟨[(0,b_0)],10⟩) }] [2,3,7,8,9] [.i r11,.mp 0 0 0,.nilp,.i r18a,.i r5] ⟨[(0,b_0)],10⟩ _ (by kernel_rfl) (cj1 (callF (f11_ok a0 (.inl r18a) hr18) [] [] [0] [E_GConsort a0] ⟨[(0,b_0)],6⟩ (.tup [.nilp,.i r18a]) ⟨[(0,b_0)],10⟩ (by kernel_rfl) (.k (.c (cl_GConsort a0)) .z) (.t (.k (.c rfl) (.k (.c rfl) .z))) .z (.f rfl (by kernel_rfl) .z))) ?_
         refine run_s (c4 49) (c4 56) (by kernel_rfl) ?_
         obtain ⟨j3_90,hj3,h⟩:=bindE h
         refine run_gq (c4 51) (fun (j3_90:Bool)=>(zipE [2,3,7,9,90] [.i r11,.mp 0 0 0,.nilp,.i r5,.bool j3_90])) (fun (j3_90:Bool)=>⟨[(0,b_0)],10⟩) (fun j=>j3_90 = j) (fun kj3=>?_) ?_
         ·rcases iteE hj3 with ⟨hc19,hj3⟩ | ⟨hc19,hj3⟩
          ·replace hj3:=Option.some.inj hj3; subst hj3
           exact run1z (c4 51) [{},{},{},{ g:=false },{ g:=false },{ g:=false },{ g:=false },{ g:=false },{ k:=1,b:=true }] [2,3,7,9,90] [.i r11,.mp 0 0 0,.nilp,.i r5,.bool true] ⟨[(0,b_0)],10⟩ _ (by kernel_rfl) (cjC (hc19) (cjC (hc19) (cjC (hc19) (cjC (hc19) (cjC (hc19) (cj1 (hc19))))))) (kj3 true rfl)
          ·obtain ⟨r20,hr20,hj3⟩:=bindE hj3
           replace hj3:=Option.some.inj hj3; subst hj3
           exact run1z (c4 51) [{},{},{},{},{},{},{ c:=some (.i r20,⟨[(0,b_0)],10⟩) },{},{ k:=1,b:=false }] [2,3,7,9,90] [.i r11,.mp 0 0 0,.nilp,.i r5,.bool (decide (r20 ≠ 0))] ⟨[(0,b_0)],10⟩ _ (by kernel_rfl) (cjC (hc19) (cjC (hc19) (cjC (hc19) (cjC (hc19) (cjC (APure.co (ok:=fun _=>false) (π:=id) (args:=[.nilp,.i 0,.i r5,.i r11]) (f18_ok 0 r5 r11 _ hr20) (.k (.c rfl) (.k (.c rfl) (.k (.c rfl) (.k (.c rfl) .z)))) ⟨[(0,b_0)],10⟩) (cjC (hc19) (cj1 (hc19)))))))) (kj3 (decide (r20 ≠ 0)) rfl)
         ·rintro _ rfl
          rcases iteE h with ⟨hc21,h⟩ | ⟨hc21,h⟩
          ·refine run_cT 90 (c4 52) (c4 55) j3_90 hc21 (by kernel_rfl) (by kernel_rfl) ?_
           refine run1z (c4 54) [] [6] [.bool false] ⟨[],10⟩ _ (by kernel_rfl) cj0 ?_
           refine run_t (by kernel_rfl) ?_
           refine thenR ?_
           replace h:=Option.some.inj h; subst h
           exact fin_r (by kernel_rfl) rfl
          ·refine run_cF 90 (c4 52) (c4 55) j3_90 hc21 (by kernel_rfl) (by kernel_rfl) ?_
           refine run_k (by kernel_rfl) ?_
           refine thenN ?_
           refine run_s (c4 57) (c4 66) (by kernel_rfl) ?_
           obtain ⟨r22,hr22,h⟩:=bindE h
           refine run1z (c4 59) [{},{ c:=some (.tup [.sl false (r22.1.map E_GFrame),.bool r22.2],⟨[(0,b_0)],10⟩) }] [2,3,7,9,15] [.i r11,.mp 0 0 0,.nilp,.i r5,.bool r22.2] ⟨[(0,b_0)],10⟩ _ (by kernel_rfl) (cj1 (APure.co (ok:=fun _=>false) (π:=id) (args:=[.nilp]) (f16_ok  _ hr22) (.k (.c rfl) .z) ⟨[(0,b_0)],10⟩)) ?_
           refine run1z (c4 61) [] [2,3,7,9,97] [.i r11,.mp 0 0 0,.nilp,.i r5,.bool (!r22.2)] ⟨[(0,b_0)],10⟩ _ (by kernel_rfl) cj0 ?_
           rcases iteE h with ⟨hc23,h⟩ | ⟨hc23,h⟩
           ·refine run_cT 97 (c4 62) (c4 65) (!r22.2) hc23 (by kernel_rfl) (by kernel_rfl) ?_
            refine run1z (c4 64) [] [6] [.bool false] ⟨[],10⟩ _ (by kernel_rfl) cj0 ?_
            refine run_t (by kernel_rfl) ?_
            refine thenR ?_
            replace h:=Option.some.inj h; subst h
            exact fin_r (by kernel_rfl) rfl
           ·refine run_cF 97 (c4 62) (c4 65) (!r22.2) hc23 (by kernel_rfl) (by kernel_rfl) ?_
            refine run_k (by kernel_rfl) ?_
            refine thenN ?_
            obtain ⟨r24,hr24,h⟩:=bindE h
            let v_1:AV:=.sl false (r24.map E_GTake)
            refine run1z (c4 68) [{},{ c:=some (v_1,⟨[(0,b_0)],10⟩) }] [2,3,9,16] [.i r11,.mp 0 0 0,.i r5,v_1] ⟨[(0,b_0)],10⟩ _ (by kernel_rfl) (cj1 (APure.co (ok:=fun _=>false) (π:=id) (args:=[.nilp]) (f20_ok  _ hr24) (.k (.c rfl) .z) ⟨[(0,b_0)],10⟩)) ?_
            refine run_s (c4 69) (c4 76) (by kernel_rfl) ?_
            obtain ⟨hn25,h⟩:=needE h
            refine run1z (c4 71) [{},{ k:=1,n:=r24.length },{},{},{ k:=1 }] [2,3,9,16,105] [.i r11,.mp 0 0 0,.i r5,v_1,.bool (decide ((Int.tmod (r24.length:Int) (wr (r11 + 1))) ≠ 0))] ⟨[(0,b_0)],10⟩ _ (by kernel_rfl) (cjC (mapLen r24 E_GTake) (cj1 (hn25))) ?_
            rcases iteE h with ⟨hc26,h⟩ | ⟨hc26,h⟩
            ·refine run_cT 105 (c4 72) (c4 75) (decide ((Int.tmod (r24.length:Int) (wr (r11 + 1))) ≠ 0)) hc26 (by kernel_rfl) (by kernel_rfl) ?_
             refine run1z (c4 74) [] [6] [.bool false] ⟨[],10⟩ _ (by kernel_rfl) cj0 ?_
             refine run_t (by kernel_rfl) ?_
             refine thenR ?_
             replace h:=Option.some.inj h; subst h
             exact fin_r (by kernel_rfl) rfl
            ·refine run_cF 105 (c4 72) (c4 75) (decide ((Int.tmod (r24.length:Int) (wr (r11 + 1))) ≠ 0)) hc26 (by kernel_rfl) (by kernel_rfl) ?_
             refine run_k (by kernel_rfl) ?_
             refine thenN ?_
             let v_2:AV:=.i (wr (Int.tdiv (r24.length:Int) (wr (r11 + 1))))
             refine run1z (c4 78) [{},{ k:=1,n:=r24.length },{},{},{ k:=1 }] [2,3,9,16,17] [.i r11,.mp 0 0 0,.i r5,v_1,v_2] ⟨[(0,b_0)],10⟩ _ (by kernel_rfl) (cjC (mapLen r24 E_GTake) (cj1 (hn25))) ?_
             refine run_s (c4 79) (c4 99) (by kernel_rfl) ?_
             refine run1z (c4 81) [] [2,3,9,16,17,18] [.i r11,.mp 0 0 0,.i r5,v_1,v_2,.i 0] ⟨[(0,b_0)],10⟩ _ (by kernel_rfl) cj0 ?_
             obtain ⟨ol4x,hll4x,h⟩:=bindE h
             refine run_tq (fun (_:Unit)=>(zipE [] [])) (fun (_:Unit)=>⟨[],10⟩) (fun j=>ol4x = .inl j) (fun kl4=>?_) ?_
             ·refine run_b 0 (c4 82) (by kernel_rfl) ?_
              refine run_l (c4 83) _ hll4x (fun (l4_18:Int)=>(zipE [2,3,9,16,17,18] [.i r11,.mp 0 0 0,.i r5,v_1,v_2,.i l4_18])) (fun (l4_18:Int)=>⟨[(0,b_0)],10⟩) [] (by intro i e; cases e <;> exact Nat.le_of_ble_eq_true rfl) (by kernel_rfl) (mkInto (ks:=[2,3,9,16,17,18]) (ys:=[.i r11,.mp 0 0 0,.i r5,v_1,v_2,.i 0]) (by kernel_rfl) (by kernel_rfl) (.k (.c rfl) (.k (.mp rfl rfl) (.k (.c rfl) (.k (.c (cleanMap _ _ cl_GTake)) (.k (.c rfl) (.k (.c rfl) .z)))))) (.k rfl (.cells (.k (.c (cl_GConsort a0)) .z)) .z)) ?_
              rintro l4_18 out hl4 rl4
              refine run_s (c4 84) (c4 89) (by kernel_rfl) ?_
              refine run1z (c4 86) [] [2,3,9,16,17,18,113] [.i r11,.mp 0 0 0,.i r5,v_1,v_2,.i l4_18,.bool (decide (l4_18 ≤ r11))] ⟨[(0,b_0)],10⟩ _ (by kernel_rfl) cj0 ?_
              rcases iteE hl4 with ⟨hc27,hl4⟩ | ⟨hc27,hl4⟩
              ·refine run_cT 113 (c4 87) (c4 88) (decide (l4_18 ≤ r11)) hc27 (by kernel_rfl) (by kernel_rfl) ?_
               refine run_k (by kernel_rfl) ?_
               refine thenN ?_
               refine run_s (c4 90) (c4 98) (by kernel_rfl) ?_
               refine run_b 1 (c4 91) (by kernel_rfl) ?_
               obtain ⟨hn28,hl4⟩:=needE hl4
               obtain ⟨hn29,hl4⟩:=needE hl4
               obtain ⟨hn30,hl4⟩:=needE hl4
               obtain ⟨hn31,hl4⟩:=needE hl4
               obtain ⟨r32,hr32,hl4⟩:=bindE hl4
               refine yun1z (c4 93) [[],[],[],[],[2,3],[],[5],[],[5,6,7],[1,2,3,4,5,6,7,8],[],[],[10,11],[0,1,2,3,4,5,6,7,8,9,10,11,12],[0,1,2,3,4,5,6,7,8,9,10,11,12,13]] [.light 0 false,.light 1 false,.light 2 false,.light 3 false,.light 4 false,.light 5 false,.light 6 false,.light 7 false,.light 8 false,.light 9 false,.light 10 false,.light 11 false,.light 12 false,.heavy 13 [],.light 14 false] [{},{},{},{},{},{},{},{},{},{ k:=1,n:=(wr (l4_18 * (wr (Int.tdiv (r24.length:Int) (wr (r11 + 1)))))).toNat,m:=(wr ((wr (l4_18 + 1)) * (wr (Int.tdiv (r24.length:Int) (wr (r11 + 1)))))).toNat,b:=false,l:=((r24.take (wr ((wr (l4_18 + 1)) * (wr (Int.tdiv (r24.length:Int) (wr (r11 + 1)))))).toNat).drop (wr (l4_18 * (wr (Int.tdiv (r24.length:Int) (wr (r11 + 1)))))).toNat).map E_GTake },{},{},{},{ c:=some (.bool r32,⟨[(0,b_0)],10⟩) }] [2,3,9,16,17,18,130] [.i r11,.mp 0 0 0,.i r5,v_1,v_2,.i l4_18,.bool (!r32)] ⟨[(0,b_0)],10⟩ _ (by kernel_rfl) (cjC (hn30) (cjC (leMap E_GTake hn31) (cjC (fitsMap (P:=Try.prog) (t:=101) (k:=5) r24 E_GTake (by kernel_rfl) sz_GTake) (cjC (Eq.refl false) (cjC (mapSub r24 E_GTake (wr (l4_18 * (wr (Int.tdiv (r24.length:Int) (wr (r11 + 1)))))).toNat (wr ((wr (l4_18 + 1)) * (wr (Int.tdiv (r24.length:Int) (wr (r11 + 1)))))).toNat) (cjC (hn28) (cjC (Eq.refl ((wr (l4_18 * (wr (Int.tdiv (r24.length:Int) (wr (r11 + 1)))))).toNat)) (cjC (hn29) (cjC (Eq.refl ((wr ((wr (l4_18 + 1)) * (wr (Int.tdiv (r24.length:Int) (wr (r11 + 1)))))).toNat)) (cj1 (f21_ok a0 ((r24.take (wr ((wr (l4_18 + 1)) * (wr (Int.tdiv (r24.length:Int) (wr (r11 + 1)))))).toNat).drop (wr (l4_18 * (wr (Int.tdiv (r24.length:Int) (wr (r11 + 1)))))).toNat) (-1) (wr (l4_18 * r5)) _ hr32 ⟨[(0,b_0)],10⟩))))))))))) ?_
               rcases iteE hl4 with ⟨hc33,hl4⟩ | ⟨hc33,hl4⟩
               ·refine run_cT 130 (c4 94) (c4 97) (!r32) hc33 (by kernel_rfl) (by kernel_rfl) ?_
                refine run1z (c4 96) [] [6] [.bool false] ⟨[],10⟩ _ (by kernel_rfl) cj0 ?_
                replace hl4:=Option.some.inj hl4; subst hl4
                have hr:=rl4 _ rfl
                subst hr
                replace h:=elimR h
                refine run_t (by kernel_rfl) ?_
                refine inbR ?_
                refine thenR ?_
                refine ⟨⟨_,rfl⟩,?_⟩
                refine inbR ?_
                refine thenR ?_
                replace h:=Option.some.inj h; subst h
                exact fin_r (by kernel_rfl) rfl
               ·refine run_cF 130 (c4 94) (c4 97) (!r32) hc33 (by kernel_rfl) (by kernel_rfl) ?_
                refine run_k (by kernel_rfl) ?_
                refine inbN ?_
                refine thenN ?_
                refine run0z [] [2,3,9,16,17,18] [.i r11,.mp 0 0 0,.i r5,v_1,v_2,.i (wr (l4_18 + 1))] ⟨[(0,b_0)],10⟩ _ (by kernel_rfl) cj0 ?_
                replace hl4:=Option.some.inj hl4; subst hl4
                exact ⟨_,rfl,pi [],mkInto (ks:=[2,3,9,16,17,18]) (ys:=[.i r11,.mp 0 0 0,.i r5,v_1,v_2,.i (wr (l4_18 + 1))]) (by kernel_rfl) (by kernel_rfl) (.k (.c rfl) (.k (.mp rfl rfl) (.k (.c rfl) (.k (.c (cleanMap _ _ cl_GTake)) (.k (.c rfl) (.k (.c rfl) .z)))))) (.k rfl (.cells (.k (.c (cl_GConsort a0)) .z)) .z)⟩
              ·refine run_cF 113 (c4 87) (c4 88) (decide (l4_18 ≤ r11)) hc27 (by kernel_rfl) (by kernel_rfl) ?_
               replace hl4:=Option.some.inj hl4; subst hl4
               have hr:=rl4 _ rfl
               subst hr
               refine awp_p [] [] (zipE [] []) ⟨[],10⟩ (by kernel_rfl) (?_)
               refine run_e 0 (by kernel_rfl) ?_
               refine thenE ?_
               refine ⟨⟨_,rfl⟩,?_⟩
               refine inbE ?_
               exact kl4 () rfl
             ·rintro ⟨⟩ rfl
              replace h:=elimL h
              refine thenN ?_
              obtain ⟨r34,hr34,h⟩:=bindE h
              refine run1z (c4 101) [{ c:=some (.bool r34,⟨[],10⟩) }] [6] [.bool r34] ⟨[],10⟩ _ (by kernel_rfl) (cj1 (f10_ok  _ hr34 ⟨[],10⟩)) ?_
              refine run_t (by kernel_rfl) ?_
              replace h:=Option.some.inj h; subst h
              exact fin_r (by kernel_rfl) rfl
        ·replace h:=elimR h
         let v_3:AV:=.ms 8 0 r18b.2.length
         let w_1:AV:=.agg [.i 0,.i 0,.i r18b.1,.bool true,v_3,.i 0,.i 0,.i 0,.ms 10 0 ([]:List GCLive).length,.fn 31 [],.ms 9 0 ([]:List GTake).length]
         let b_1:Blk:=.cells 7 (([]:List GCLive).map E_GCLive)
         let b_3:Blk:=.cells 5 (([]:List GTake).map E_GTake)
         let b_5:Blk:=.cells 3 (r18b.2.map E_GCDesk)
         let s_2:St:=⟨[(10,b_1),(9,b_3),(8,b_5),(7,.cells 11 [w_1]),(0,b_0)],11⟩
         refine run1z (c4 48) [{},{ c:=some (.tup [.mp 7 0 0,.i 0],s_2) }] [2,3,7,8,9] [.i r11,.mp 0 0 0,.mp 7 0 0,.i 0,.i r5] s_2 _ (by kernel_rfl) (cj1 (callF (f11_ok a0 (.inr r18b) hr18) [] [(10,4),(9,3),(8,2),(7,1)] [0] [E_GConsort a0] ⟨[(0,b_0)],6⟩ (.tup [.mp 7 0 0,.i 0]) s_2 (by kernel_rfl) (.k (.c (cl_GConsort a0)) .z) (.t (.k (.mp rfl rfl) (.k (.c rfl) .z))) .z (.d (x':=b_1) rfl (by kernel_rfl) (.cells (.r (cleanMap _ _ cl_GCLive))) (.d (x':=b_3) rfl (by kernel_rfl) (.cells (.r (cleanMap _ _ cl_GTake))) (.d (x':=b_5) rfl (by kernel_rfl) (.cells (.r (cleanMap _ _ cl_GCDesk))) (.d (x':=.cells 11 [.agg [.i 0,.i 0,.i r18b.1,.bool true,.ms 2 0 r18b.2.length,.i 0,.i 0,.i 0,.ms 4 0 ([]:List GCLive).length,.fn 31 [],.ms 3 0 ([]:List GTake).length]]) rfl (by kernel_rfl) (.cells (.k (.a (.k (.c rfl) (.k (.c rfl) (.k (.c rfl) (.k (.c rfl) (.k (.ms rfl rfl) (.k (.c rfl) (.k (.c rfl) (.k (.c rfl) (.k (.ms rfl rfl) (.k (.c rfl) (.k (.ms rfl rfl) .z)))))))))))) .z)) (.f rfl (by kernel_rfl) .z))))))) ?_
         refine run_s (c4 49) (c4 56) (by kernel_rfl) ?_
         obtain ⟨r35,hr35,h⟩:=bindE h
         let w_2:AV:=.agg [.i 0,.i 0,.i r18b.1,.bool true,v_3,.i r35.2.1,.i r35.2.2.1,.i r35.2.2.2,.ms 10 0 ([]:List GCLive).length,.fn 31 [],.ms 9 0 ([]:List GTake).length]
         let s_3:St:=⟨[(10,b_1),(9,b_3),(8,b_5),(7,.cells 11 [w_2]),(0,b_0)],11⟩
         refine run1z (c4 51) [{},{},{},{},{},{},{ c:=some (.i r35.1,s_3) }] [2,3,7,9,90] [.i r11,.mp 0 0 0,.mp 7 0 0,.i r5,.bool (decide (r35.1 ≠ 0))] s_3 _ (by kernel_rfl) (cjC (Eq.refl false) (cjC (Eq.refl false) (cjC (Eq.refl false) (cjC (Eq.refl false) (cjC (callF (f18_1_ok (⟨(⟨0⟩:GCClock),0,r18b.1,true,r18b.2,0,0,0,(⟨([]:List GCLive)⟩:GCShelf_live),([]:List GTake)⟩:GCPlayer) 0 r5 r11 _ hr35) [(0,7),(1,8),(2,10),(3,9)] [(9,3),(10,2),(8,1),(7,0)] [0] [.mp 7 0 0,.i 0,.i r5,.i r11] s_2 (.i r35.1) s_3 (by kernel_rfl) (.k (.mp rfl rfl) (.k (.c rfl) (.k (.c rfl) (.k (.c rfl) .z)))) (.c rfl) (.k rfl (.cells (.r (cleanMap _ _ cl_GTake))) (.k rfl (.cells (.r (cleanMap _ _ cl_GCLive))) (.k rfl (.cells (.r (cleanMap _ _ cl_GCDesk))) (.k rfl (.cells (.k (.a (.k (.c rfl) (.k (.c rfl) (.k (.c rfl) (.k (.c rfl) (.k (.ms rfl rfl) (.k (.c rfl) (.k (.c rfl) (.k (.c rfl) (.k (.ms rfl rfl) (.k (.c rfl) (.k (.ms rfl rfl) .z)))))))))))) .z)) .z)))) (.d (x':=b_1) rfl (by kernel_rfl) (.cells (.r (cleanMap _ _ cl_GCLive))) (.d (x':=b_3) rfl (by kernel_rfl) (.cells (.r (cleanMap _ _ cl_GTake))) (.d (x':=b_5) rfl (by kernel_rfl) (.cells (.r (cleanMap _ _ cl_GCDesk))) (.d (x':=.cells 11 [.agg [.i 0,.i 0,.i r18b.1,.bool true,.ms 1 0 r18b.2.length,.i r35.2.1,.i r35.2.2.1,.i r35.2.2.2,.ms 2 0 ([]:List GCLive).length,.fn 31 [],.ms 3 0 ([]:List GTake).length]]) rfl (by kernel_rfl) (.cells (.k (.a (.k (.c rfl) (.k (.c rfl) (.k (.c rfl) (.k (.c rfl) (.k (.ms rfl rfl) (.k (.c rfl) (.k (.c rfl) (.k (.c rfl) (.k (.ms rfl rfl) (.k (.c rfl) (.k (.ms rfl rfl) .z)))))))))))) .z)) (.f rfl (by kernel_rfl) .z)))))) (cj1 (Eq.refl false))))))) ?_
         rcases iteE h with ⟨hc36,h⟩ | ⟨hc36,h⟩
         ·refine run_cT 90 (c4 52) (c4 55) (decide (r35.1 ≠ 0)) hc36 (by kernel_rfl) (by kernel_rfl) ?_
          refine run1z (c4 54) [] [6] [.bool false] ⟨[],11⟩ _ (by kernel_rfl) cj0 ?_
          refine run_t (by kernel_rfl) ?_
          refine thenR ?_
          replace h:=Option.some.inj h; subst h
          exact fin_r (by kernel_rfl) rfl
         ·refine run_cF 90 (c4 52) (c4 55) (decide (r35.1 ≠ 0)) hc36 (by kernel_rfl) (by kernel_rfl) ?_
          refine run_k (by kernel_rfl) ?_
          refine thenN ?_
          refine run_s (c4 57) (c4 66) (by kernel_rfl) ?_
          obtain ⟨r37,hr37,h⟩:=bindE h
          let v_4:AV:=.ms 27 0 r37.2.2.2.2.2.2.2.1.length
          let v_5:AV:=.ms 28 0 r37.2.2.2.2.2.2.2.2.length
          let v_6:AV:=.ms 8 0 r37.2.2.2.2.2.1.length
          let v_7:AV:=.i r37.2.2.2.2.2.2.1
          let v_8:AV:=.bool r37.2.2.2.2.1
          let v_9:AV:=.i r37.2.2.2.1
          let w_3:AV:=.agg [.i r37.2.2.1,v_9,.i r18b.1,v_8,v_6,.i r35.2.1,.i r35.2.2.1,v_7,v_4,.fn 31 [],v_5]
          let w_4:AV:=.tup [.sl false (r37.1.map E_GFrame),.bool r37.2.1]
          let b_6:Blk:=.cells 7 (r37.2.2.2.2.2.2.2.1.map E_GCLive)
          let b_7:Blk:=.cells 5 (r37.2.2.2.2.2.2.2.2.map E_GTake)
          let b_8:Blk:=.cells 3 (r37.2.2.2.2.2.1.map E_GCDesk)
          let s_4:St:=⟨[(28,b_7),(27,b_6),(8,b_8),(7,.cells 11 [w_3]),(0,b_0)],29⟩
          refine run1z (c4 59) [{},{ c:=some (w_4,s_4) }] [2,3,7,9,15] [.i r11,.mp 0 0 0,.mp 7 0 0,.i r5,.bool r37.2.1] s_4 _ (by kernel_rfl) (cj1 (callF (f16_1_ok (⟨(⟨0⟩:GCClock),0,r18b.1,true,r18b.2,r35.2.1,r35.2.2.1,r35.2.2.2,(⟨([]:List GCLive)⟩:GCShelf_live),([]:List GTake)⟩:GCPlayer) _ hr37) [(0,7),(1,8),(2,10),(3,9)] [(28,21),(27,20),(8,1),(7,0)] [0] [.mp 7 0 0] s_3 (w_4) s_4 (by kernel_rfl) (.k (.mp rfl rfl) .z) (.t (.k (.c (cleanMap _ _ cl_GFrame)) (.k (.c rfl) .z))) (.k rfl (.cells (.r (cleanMap _ _ cl_GTake))) (.k rfl (.cells (.r (cleanMap _ _ cl_GCLive))) (.k rfl (.cells (.r (cleanMap _ _ cl_GCDesk))) (.k rfl (.cells (.k (.a (.k (.c rfl) (.k (.c rfl) (.k (.c rfl) (.k (.c rfl) (.k (.ms rfl rfl) (.k (.c rfl) (.k (.c rfl) (.k (.c rfl) (.k (.ms rfl rfl) (.k (.c rfl) (.k (.ms rfl rfl) .z)))))))))))) .z)) .z)))) (.d (x':=b_7) rfl (by kernel_rfl) (.cells (.r (cleanMap _ _ cl_GTake))) (.d (x':=b_6) rfl (by kernel_rfl) (.cells (.r (cleanMap _ _ cl_GCLive))) (.d (x':=b_8) rfl (by kernel_rfl) (.cells (.r (cleanMap _ _ cl_GCDesk))) (.d (x':=.cells 11 [.agg [.i r37.2.2.1,v_9,.i r18b.1,v_8,.ms 1 0 r37.2.2.2.2.2.1.length,.i r35.2.1,.i r35.2.2.1,v_7,.ms 20 0 r37.2.2.2.2.2.2.2.1.length,.fn 31 [],.ms 21 0 r37.2.2.2.2.2.2.2.2.length]]) rfl (by kernel_rfl) (.cells (.k (.a (.k (.c rfl) (.k (.c rfl) (.k (.c rfl) (.k (.c rfl) (.k (.ms rfl rfl) (.k (.c rfl) (.k (.c rfl) (.k (.c rfl) (.k (.ms rfl rfl) (.k (.c rfl) (.k (.ms rfl rfl) .z)))))))))))) .z)) (.f rfl (by kernel_rfl) .z))))))) ?_
          refine run1z (c4 61) [] [2,3,7,9,97] [.i r11,.mp 0 0 0,.mp 7 0 0,.i r5,.bool (!r37.2.1)] s_4 _ (by kernel_rfl) cj0 ?_
          rcases iteE h with ⟨hc38,h⟩ | ⟨hc38,h⟩
          ·refine run_cT 97 (c4 62) (c4 65) (!r37.2.1) hc38 (by kernel_rfl) (by kernel_rfl) ?_
           refine run1z (c4 64) [] [6] [.bool false] ⟨[],29⟩ _ (by kernel_rfl) cj0 ?_
           refine run_t (by kernel_rfl) ?_
           refine thenR ?_
           replace h:=Option.some.inj h; subst h
           exact fin_r (by kernel_rfl) rfl
          ·refine run_cF 97 (c4 62) (c4 65) (!r37.2.1) hc38 (by kernel_rfl) (by kernel_rfl) ?_
           refine run_k (by kernel_rfl) ?_
           refine thenN ?_
           obtain ⟨r39,hr39,h⟩:=bindE h
           let v_10:AV:=.sl false (r39.map E_GTake)
           let s_5:St:=⟨[(28,b_7),(27,b_6),(8,b_8),(7,.cells 11 [w_3]),(0,b_0)],32⟩
           refine run1z (c4 68) [{},{ c:=some (v_10,s_5) }] [2,3,9,16] [.i r11,.mp 0 0 0,.i r5,v_10] ⟨[(0,b_0)],32⟩ _ (by kernel_rfl) (cj1 (callF (f20_1_ok (⟨(⟨r37.2.2.1⟩:GCClock),r37.2.2.2.1,r18b.1,r37.2.2.2.2.1,r37.2.2.2.2.2.1,r35.2.1,r35.2.2.1,r37.2.2.2.2.2.2.1,(⟨r37.2.2.2.2.2.2.2.1⟩:GCShelf_live),r37.2.2.2.2.2.2.2.2⟩:GCPlayer) _ hr39) [(0,7),(1,8),(2,27),(3,28)] [(28,3),(27,2),(8,1),(7,0)] [0] [.mp 7 0 0] s_4 (v_10) s_5 (by kernel_rfl) (.k (.mp rfl rfl) .z) (.c (cleanMap _ _ cl_GTake)) (.k rfl (.cells (.r (cleanMap _ _ cl_GTake))) (.k rfl (.cells (.r (cleanMap _ _ cl_GCLive))) (.k rfl (.cells (.r (cleanMap _ _ cl_GCDesk))) (.k rfl (.cells (.k (.a (.k (.c rfl) (.k (.c rfl) (.k (.c rfl) (.k (.c rfl) (.k (.ms rfl rfl) (.k (.c rfl) (.k (.c rfl) (.k (.c rfl) (.k (.ms rfl rfl) (.k (.c rfl) (.k (.ms rfl rfl) .z)))))))))))) .z)) .z)))) (.d (x':=b_7) rfl (by kernel_rfl) (.cells (.r (cleanMap _ _ cl_GTake))) (.d (x':=b_6) rfl (by kernel_rfl) (.cells (.r (cleanMap _ _ cl_GCLive))) (.d (x':=b_8) rfl (by kernel_rfl) (.cells (.r (cleanMap _ _ cl_GCDesk))) (.d (x':=.cells 11 [.agg [.i r37.2.2.1,v_9,.i r18b.1,v_8,.ms 1 0 r37.2.2.2.2.2.1.length,.i r35.2.1,.i r35.2.2.1,v_7,.ms 2 0 r37.2.2.2.2.2.2.2.1.length,.fn 31 [],.ms 3 0 r37.2.2.2.2.2.2.2.2.length]]) rfl (by kernel_rfl) (.cells (.k (.a (.k (.c rfl) (.k (.c rfl) (.k (.c rfl) (.k (.c rfl) (.k (.ms rfl rfl) (.k (.c rfl) (.k (.c rfl) (.k (.c rfl) (.k (.ms rfl rfl) (.k (.c rfl) (.k (.ms rfl rfl) .z)))))))))))) .z)) (.f rfl (by kernel_rfl) .z))))))) ?_
           refine run_s (c4 69) (c4 76) (by kernel_rfl) ?_
           obtain ⟨hn40,h⟩:=needE h
           refine run1z (c4 71) [{},{ k:=1,n:=r39.length },{},{},{ k:=1 }] [2,3,9,16,105] [.i r11,.mp 0 0 0,.i r5,v_10,.bool (decide ((Int.tmod (r39.length:Int) (wr (r11 + 1))) ≠ 0))] ⟨[(0,b_0)],32⟩ _ (by kernel_rfl) (cjC (mapLen r39 E_GTake) (cj1 (hn40))) ?_
           rcases iteE h with ⟨hc41,h⟩ | ⟨hc41,h⟩
           ·refine run_cT 105 (c4 72) (c4 75) (decide ((Int.tmod (r39.length:Int) (wr (r11 + 1))) ≠ 0)) hc41 (by kernel_rfl) (by kernel_rfl) ?_
            refine run1z (c4 74) [] [6] [.bool false] ⟨[],32⟩ _ (by kernel_rfl) cj0 ?_
            refine run_t (by kernel_rfl) ?_
            refine thenR ?_
            replace h:=Option.some.inj h; subst h
            exact fin_r (by kernel_rfl) rfl
           ·refine run_cF 105 (c4 72) (c4 75) (decide ((Int.tmod (r39.length:Int) (wr (r11 + 1))) ≠ 0)) hc41 (by kernel_rfl) (by kernel_rfl) ?_
            refine run_k (by kernel_rfl) ?_
            refine thenN ?_
            let v_11:AV:=.i (wr (Int.tdiv (r39.length:Int) (wr (r11 + 1))))
            refine run1z (c4 78) [{},{ k:=1,n:=r39.length },{},{},{ k:=1 }] [2,3,9,16,17] [.i r11,.mp 0 0 0,.i r5,v_10,v_11] ⟨[(0,b_0)],32⟩ _ (by kernel_rfl) (cjC (mapLen r39 E_GTake) (cj1 (hn40))) ?_
            refine run_s (c4 79) (c4 99) (by kernel_rfl) ?_
            refine run1z (c4 81) [] [2,3,9,16,17,18] [.i r11,.mp 0 0 0,.i r5,v_10,v_11,.i 0] ⟨[(0,b_0)],32⟩ _ (by kernel_rfl) cj0 ?_
            obtain ⟨ol5x,hll5x,h⟩:=bindE h
            refine run_tq (fun (_:Unit)=>(zipE [] [])) (fun (_:Unit)=>⟨[],32⟩) (fun j=>ol5x = .inl j) (fun kl5=>?_) ?_
            ·refine run_b 0 (c4 82) (by kernel_rfl) ?_
             refine run_l (c4 83) _ hll5x (fun (l5_18:Int)=>(zipE [2,3,9,16,17,18] [.i r11,.mp 0 0 0,.i r5,v_10,v_11,.i l5_18])) (fun (l5_18:Int)=>⟨[(0,b_0)],32⟩) [] (by intro i e; cases e <;> exact Nat.le_of_ble_eq_true rfl) (by kernel_rfl) (mkInto (ks:=[2,3,9,16,17,18]) (ys:=[.i r11,.mp 0 0 0,.i r5,v_10,v_11,.i 0]) (by kernel_rfl) (by kernel_rfl) (.k (.c rfl) (.k (.mp rfl rfl) (.k (.c rfl) (.k (.c (cleanMap _ _ cl_GTake)) (.k (.c rfl) (.k (.c rfl) .z)))))) (.k rfl (.cells (.k (.c (cl_GConsort a0)) .z)) .z)) ?_
             rintro l5_18 out hl5 rl5
             refine run_s (c4 84) (c4 89) (by kernel_rfl) ?_
             refine run1z (c4 86) [] [2,3,9,16,17,18,113] [.i r11,.mp 0 0 0,.i r5,v_10,v_11,.i l5_18,.bool (decide (l5_18 ≤ r11))] ⟨[(0,b_0)],32⟩ _ (by kernel_rfl) cj0 ?_
             rcases iteE hl5 with ⟨hc42,hl5⟩ | ⟨hc42,hl5⟩
             ·refine run_cT 113 (c4 87) (c4 88) (decide (l5_18 ≤ r11)) hc42 (by kernel_rfl) (by kernel_rfl) ?_
              refine run_k (by kernel_rfl) ?_
              refine thenN ?_
              refine run_s (c4 90) (c4 98) (by kernel_rfl) ?_
              refine run_b 1 (c4 91) (by kernel_rfl) ?_
              obtain ⟨hn43,hl5⟩:=needE hl5
              obtain ⟨hn44,hl5⟩:=needE hl5
              obtain ⟨hn45,hl5⟩:=needE hl5
              obtain ⟨hn46,hl5⟩:=needE hl5
              obtain ⟨r47,hr47,hl5⟩:=bindE hl5
              refine yun1z (c4 93) [[],[],[],[],[2,3],[],[5],[],[5,6,7],[1,2,3,4,5,6,7,8],[],[],[10,11],[0,1,2,3,4,5,6,7,8,9,10,11,12],[0,1,2,3,4,5,6,7,8,9,10,11,12,13]] [.light 0 false,.light 1 false,.light 2 false,.light 3 false,.light 4 false,.light 5 false,.light 6 false,.light 7 false,.light 8 false,.light 9 false,.light 10 false,.light 11 false,.light 12 false,.heavy 13 [],.light 14 false] [{},{},{},{},{},{},{},{},{},{ k:=1,n:=(wr (l5_18 * (wr (Int.tdiv (r39.length:Int) (wr (r11 + 1)))))).toNat,m:=(wr ((wr (l5_18 + 1)) * (wr (Int.tdiv (r39.length:Int) (wr (r11 + 1)))))).toNat,b:=false,l:=((r39.take (wr ((wr (l5_18 + 1)) * (wr (Int.tdiv (r39.length:Int) (wr (r11 + 1)))))).toNat).drop (wr (l5_18 * (wr (Int.tdiv (r39.length:Int) (wr (r11 + 1)))))).toNat).map E_GTake },{},{},{},{ c:=some (.bool r47,⟨[(0,b_0)],32⟩) }] [2,3,9,16,17,18,130] [.i r11,.mp 0 0 0,.i r5,v_10,v_11,.i l5_18,.bool (!r47)] ⟨[(0,b_0)],32⟩ _ (by kernel_rfl) (cjC (hn45) (cjC (leMap E_GTake hn46) (cjC (fitsMap (P:=Try.prog) (t:=101) (k:=5) r39 E_GTake (by kernel_rfl) sz_GTake) (cjC (Eq.refl false) (cjC (mapSub r39 E_GTake (wr (l5_18 * (wr (Int.tdiv (r39.length:Int) (wr (r11 + 1)))))).toNat (wr ((wr (l5_18 + 1)) * (wr (Int.tdiv (r39.length:Int) (wr (r11 + 1)))))).toNat) (cjC (hn43) (cjC (Eq.refl ((wr (l5_18 * (wr (Int.tdiv (r39.length:Int) (wr (r11 + 1)))))).toNat)) (cjC (hn44) (cjC (Eq.refl ((wr ((wr (l5_18 + 1)) * (wr (Int.tdiv (r39.length:Int) (wr (r11 + 1)))))).toNat)) (cj1 (f21_ok a0 ((r39.take (wr ((wr (l5_18 + 1)) * (wr (Int.tdiv (r39.length:Int) (wr (r11 + 1)))))).toNat).drop (wr (l5_18 * (wr (Int.tdiv (r39.length:Int) (wr (r11 + 1)))))).toNat) (-1) (wr (l5_18 * r5)) _ hr47 ⟨[(0,b_0)],32⟩))))))))))) ?_
              rcases iteE hl5 with ⟨hc48,hl5⟩ | ⟨hc48,hl5⟩
              ·refine run_cT 130 (c4 94) (c4 97) (!r47) hc48 (by kernel_rfl) (by kernel_rfl) ?_
               refine run1z (c4 96) [] [6] [.bool false] ⟨[],32⟩ _ (by kernel_rfl) cj0 ?_
               replace hl5:=Option.some.inj hl5; subst hl5
               have hr:=rl5 _ rfl
               subst hr
               replace h:=elimR h
               refine run_t (by kernel_rfl) ?_
               refine inbR ?_
               refine thenR ?_
               refine ⟨⟨_,rfl⟩,?_⟩
               refine inbR ?_
               refine thenR ?_
               replace h:=Option.some.inj h; subst h
               exact fin_r (by kernel_rfl) rfl
              ·refine run_cF 130 (c4 94) (c4 97) (!r47) hc48 (by kernel_rfl) (by kernel_rfl) ?_
               refine run_k (by kernel_rfl) ?_
               refine inbN ?_
               refine thenN ?_
               refine run0z [] [2,3,9,16,17,18] [.i r11,.mp 0 0 0,.i r5,v_10,v_11,.i (wr (l5_18 + 1))] ⟨[(0,b_0)],32⟩ _ (by kernel_rfl) cj0 ?_
               replace hl5:=Option.some.inj hl5; subst hl5
               exact ⟨_,rfl,pi [],mkInto (ks:=[2,3,9,16,17,18]) (ys:=[.i r11,.mp 0 0 0,.i r5,v_10,v_11,.i (wr (l5_18 + 1))]) (by kernel_rfl) (by kernel_rfl) (.k (.c rfl) (.k (.mp rfl rfl) (.k (.c rfl) (.k (.c (cleanMap _ _ cl_GTake)) (.k (.c rfl) (.k (.c rfl) .z)))))) (.k rfl (.cells (.k (.c (cl_GConsort a0)) .z)) .z)⟩
             ·refine run_cF 113 (c4 87) (c4 88) (decide (l5_18 ≤ r11)) hc42 (by kernel_rfl) (by kernel_rfl) ?_
              replace hl5:=Option.some.inj hl5; subst hl5
              have hr:=rl5 _ rfl
              subst hr
              refine awp_p [] [] (zipE [] []) ⟨[],32⟩ (by kernel_rfl) (?_)
              refine run_e 0 (by kernel_rfl) ?_
              refine thenE ?_
              refine ⟨⟨_,rfl⟩,?_⟩
              refine inbE ?_
              exact kl5 () rfl
            ·rintro ⟨⟩ rfl
             replace h:=elimL h
             refine thenN ?_
             obtain ⟨r49,hr49,h⟩:=bindE h
             refine run1z (c4 101) [{ c:=some (.bool r49,⟨[],32⟩) }] [6] [.bool r49] ⟨[],32⟩ _ (by kernel_rfl) (cj1 (f10_ok  _ hr49 ⟨[],32⟩)) ?_
             refine run_t (by kernel_rfl) ?_
             replace h:=Option.some.inj h; subst h
             exact fin_r (by kernel_rfl) rfl
  ·replace h:=elimR h
   let v_12:AV:=.ms 4 0 r4b.2.length
   let w_5:AV:=.agg [.i 0,.i 0,.i r4b.1,.bool true,v_12,.i 0,.i 0,.i 0,.ms 6 0 ([]:List GCLive).length,.fn 31 [],.ms 5 0 ([]:List GTake).length]
   let b_2:Blk:=.cells 7 (([]:List GCLive).map E_GCLive)
   let b_4:Blk:=.cells 5 (([]:List GTake).map E_GTake)
   let b_9:Blk:=.cells 3 (r4b.2.map E_GCDesk)
   let s_6:St:=⟨[(6,b_2),(5,b_4),(4,b_9),(3,.cells 11 [w_5]),(1,.cells 2 [w_0]),(0,b_0)],7⟩
   refine run1z (c4 12) [{},{ c:=some (.tup [.mp 3 0 0,.i 0],s_6) }] [2,3,4,7,8] [.i a2,.mp 0 0 0,.mp 1 0 0,.mp 3 0 0,.i 0] s_6 _ (by kernel_rfl) (cj1 (callF (f11_ok a0 (.inr r4b) hr4) [] [(6,4),(5,3),(4,2),(3,1)] [1,0] [E_GConsort a0] s_0 (.tup [.mp 3 0 0,.i 0]) s_6 (by kernel_rfl) (.k (.c (cl_GConsort a0)) .z) (.t (.k (.mp rfl rfl) (.k (.c rfl) .z))) .z (.d (x':=b_2) rfl (by kernel_rfl) (.cells (.r (cleanMap _ _ cl_GCLive))) (.d (x':=b_4) rfl (by kernel_rfl) (.cells (.r (cleanMap _ _ cl_GTake))) (.d (x':=b_9) rfl (by kernel_rfl) (.cells (.r (cleanMap _ _ cl_GCDesk))) (.d (x':=.cells 11 [.agg [.i 0,.i 0,.i r4b.1,.bool true,.ms 2 0 r4b.2.length,.i 0,.i 0,.i 0,.ms 4 0 ([]:List GCLive).length,.fn 31 [],.ms 3 0 ([]:List GTake).length]]) rfl (by kernel_rfl) (.cells (.k (.a (.k (.c rfl) (.k (.c rfl) (.k (.c rfl) (.k (.c rfl) (.k (.ms rfl rfl) (.k (.c rfl) (.k (.c rfl) (.k (.c rfl) (.k (.ms rfl rfl) (.k (.c rfl) (.k (.ms rfl rfl) .z)))))))))))) .z)) (.f rfl (by kernel_rfl) (.f rfl (by kernel_rfl) .z)))))))) ?_
   obtain ⟨r50,hr50,h⟩:=bindE h
   refine run1z (c4 14) [{},{ c:=some (.i r50,s_6) }] [2,3,4,7,8,9] [.i a2,.mp 0 0 0,.mp 1 0 0,.mp 3 0 0,.i 0,.i r50] s_6 _ (by kernel_rfl) (cj1 (f14_ok a0 _ hr50 s_6)) ?_
   refine run_s (c4 15) (c4 22) (by kernel_rfl) ?_
   refine run1z (c4 17) [] [2,3,4,7,9,35] [.i a2,.mp 0 0 0,.mp 1 0 0,.mp 3 0 0,.i r50,.bool (decide (r50 ≤ 0))] s_6 _ (by kernel_rfl) (cjC (Eq.refl false) (cj1 (Eq.refl false))) ?_
   rcases iteE h with ⟨hc51,h⟩ | ⟨hc51,h⟩
   ·refine run_cT 35 (c4 18) (c4 21) (decide (r50 ≤ 0)) hc51 (by kernel_rfl) (by kernel_rfl) ?_
    obtain ⟨r52,hr52,h⟩:=bindE h
    refine run1z (c4 20) [{ c:=some (.bool r52,s_6) }] [6] [.bool r52] ⟨[],7⟩ _ (by kernel_rfl) (cj1 (f10_ok  _ hr52 s_6)) ?_
    refine run_t (by kernel_rfl) ?_
    refine thenR ?_
    replace h:=Option.some.inj h; subst h
    exact fin_r (by kernel_rfl) rfl
   ·refine run_cF 35 (c4 18) (c4 21) (decide (r50 ≤ 0)) hc51 (by kernel_rfl) (by kernel_rfl) ?_
    refine run_k (by kernel_rfl) ?_
    refine thenN ?_
    obtain ⟨r53,hr53,h⟩:=bindE h
    refine run1z (c4 24) [{},{},{},{ c:=some (.i r53,s_6) }] [2,3,4,7,9,10] [.i a2,.mp 0 0 0,.mp 1 0 0,.mp 3 0 0,.i r50,.i r53] s_6 _ (by kernel_rfl) (cj1 (f12_ok a1_0 r50 _ hr53 s_6)) ?_
    obtain ⟨r54,hr54,h⟩:=bindE h
    let v_13:AV:=.i (wr ((wr (r53 + 1)) + r54))
    let s_7:St:=⟨[(6,b_2),(5,b_4),(4,b_9),(3,.cells 11 [w_5]),(0,b_0)],7⟩
    refine run1z (c4 26) [{},{},{},{},{},{},{},{ c:=some (.i r54,s_6) }] [2,3,7,9,10,11] [.i a2,.mp 0 0 0,.mp 3 0 0,.i r50,.i r53,v_13] s_7 _ (by kernel_rfl) (cj1 (f12_ok a1_1 (wr (r50 - r53)) _ hr54 s_6)) ?_
    obtain ⟨r55,hr55,h⟩:=bindE h
    refine run1z (c4 28) [{},{ c:=some (.i r55,s_7) }] [2,3,7,9,10,11] [.i r55,.mp 0 0 0,.mp 3 0 0,.i r50,.i r53,v_13] s_7 _ (by kernel_rfl) (cj1 (f12_ok a2 6 _ hr55 s_7)) ?_
    refine run_s (c4 29) (c4 36) (by kernel_rfl) ?_
    obtain ⟨r56,hr56,h⟩:=bindE h
    let w_6:AV:=.agg [.i 0,.i 0,.i r4b.1,.bool true,v_12,.i r56.2.1,.i r56.2.2.1,.i r56.2.2.2,.ms 6 0 ([]:List GCLive).length,.fn 31 [],.ms 5 0 ([]:List GTake).length]
    let s_8:St:=⟨[(6,b_2),(5,b_4),(4,b_9),(3,.cells 11 [w_6]),(0,b_0)],7⟩
    refine run1z (c4 31) [{},{},{},{},{ c:=some (.i r56.1,s_8) }] [2,3,7,9,10,11,57] [.i r55,.mp 0 0 0,.mp 3 0 0,.i r50,.i r53,v_13,.bool (decide (r56.1 ≠ 0))] s_8 _ (by kernel_rfl) (cj1 (callF (f18_1_ok (⟨(⟨0⟩:GCClock),0,r4b.1,true,r4b.2,0,0,0,(⟨([]:List GCLive)⟩:GCShelf_live),([]:List GTake)⟩:GCPlayer) r53 (wr ((wr (r53 + 1)) + r54)) r55 _ hr56) [(0,3),(1,4),(2,6),(3,5)] [(5,3),(6,2),(4,1),(3,0)] [0] [.mp 3 0 0,.i r53,v_13,.i r55] s_7 (.i r56.1) s_8 (by kernel_rfl) (.k (.mp rfl rfl) (.k (.c rfl) (.k (.c rfl) (.k (.c rfl) .z)))) (.c rfl) (.k rfl (.cells (.r (cleanMap _ _ cl_GTake))) (.k rfl (.cells (.r (cleanMap _ _ cl_GCLive))) (.k rfl (.cells (.r (cleanMap _ _ cl_GCDesk))) (.k rfl (.cells (.k (.a (.k (.c rfl) (.k (.c rfl) (.k (.c rfl) (.k (.c rfl) (.k (.ms rfl rfl) (.k (.c rfl) (.k (.c rfl) (.k (.c rfl) (.k (.ms rfl rfl) (.k (.c rfl) (.k (.ms rfl rfl) .z)))))))))))) .z)) .z)))) (.d (x':=b_2) rfl (by kernel_rfl) (.cells (.r (cleanMap _ _ cl_GCLive))) (.d (x':=b_4) rfl (by kernel_rfl) (.cells (.r (cleanMap _ _ cl_GTake))) (.d (x':=b_9) rfl (by kernel_rfl) (.cells (.r (cleanMap _ _ cl_GCDesk))) (.d (x':=.cells 11 [.agg [.i 0,.i 0,.i r4b.1,.bool true,.ms 1 0 r4b.2.length,.i r56.2.1,.i r56.2.2.1,.i r56.2.2.2,.ms 2 0 ([]:List GCLive).length,.fn 31 [],.ms 3 0 ([]:List GTake).length]]) rfl (by kernel_rfl) (.cells (.k (.a (.k (.c rfl) (.k (.c rfl) (.k (.c rfl) (.k (.c rfl) (.k (.ms rfl rfl) (.k (.c rfl) (.k (.c rfl) (.k (.c rfl) (.k (.ms rfl rfl) (.k (.c rfl) (.k (.ms rfl rfl) .z)))))))))))) .z)) (.f rfl (by kernel_rfl) .z))))))) ?_
    rcases iteE h with ⟨hc57,h⟩ | ⟨hc57,h⟩
    ·refine run_cT 57 (c4 32) (c4 35) (decide (r56.1 ≠ 0)) hc57 (by kernel_rfl) (by kernel_rfl) ?_
     refine run1z (c4 34) [] [6] [.bool false] ⟨[],7⟩ _ (by kernel_rfl) cj0 ?_
     refine run_t (by kernel_rfl) ?_
     refine thenR ?_
     replace h:=Option.some.inj h; subst h
     exact fin_r (by kernel_rfl) rfl
    ·refine run_cF 57 (c4 32) (c4 35) (decide (r56.1 ≠ 0)) hc57 (by kernel_rfl) (by kernel_rfl) ?_
     refine run_k (by kernel_rfl) ?_
     refine thenN ?_
     refine run_s (c4 37) (c4 46) (by kernel_rfl) ?_
     obtain ⟨r58,hr58,h⟩:=bindE h
     let v_14:AV:=.ms 23 0 r58.2.2.2.2.2.2.2.1.length
     let v_15:AV:=.ms 24 0 r58.2.2.2.2.2.2.2.2.length
     let v_16:AV:=.ms 4 0 r58.2.2.2.2.2.1.length
     let v_17:AV:=.i r58.2.2.2.2.2.2.1
     let v_18:AV:=.bool r58.2.2.2.2.1
     let v_19:AV:=.i r58.2.2.2.1
     let w_7:AV:=.agg [.i r58.2.2.1,v_19,.i r4b.1,v_18,v_16,.i r56.2.1,.i r56.2.2.1,v_17,v_14,.fn 31 [],v_15]
     let w_8:AV:=.tup [.sl false (r58.1.map E_GFrame),.bool r58.2.1]
     let b_10:Blk:=.cells 7 (r58.2.2.2.2.2.2.2.1.map E_GCLive)
     let b_11:Blk:=.cells 5 (r58.2.2.2.2.2.2.2.2.map E_GTake)
     let b_12:Blk:=.cells 3 (r58.2.2.2.2.2.1.map E_GCDesk)
     let s_9:St:=⟨[(24,b_11),(23,b_10),(4,b_12),(3,.cells 11 [w_7]),(0,b_0)],25⟩
     refine run1z (c4 39) [{},{ c:=some (w_8,s_9) }] [2,3,7,9,10,11,13] [.i r55,.mp 0 0 0,.mp 3 0 0,.i r50,.i r53,v_13,.bool r58.2.1] s_9 _ (by kernel_rfl) (cj1 (callF (f16_1_ok (⟨(⟨0⟩:GCClock),0,r4b.1,true,r4b.2,r56.2.1,r56.2.2.1,r56.2.2.2,(⟨([]:List GCLive)⟩:GCShelf_live),([]:List GTake)⟩:GCPlayer) _ hr58) [(0,3),(1,4),(2,6),(3,5)] [(24,21),(23,20),(4,1),(3,0)] [0] [.mp 3 0 0] s_8 (w_8) s_9 (by kernel_rfl) (.k (.mp rfl rfl) .z) (.t (.k (.c (cleanMap _ _ cl_GFrame)) (.k (.c rfl) .z))) (.k rfl (.cells (.r (cleanMap _ _ cl_GTake))) (.k rfl (.cells (.r (cleanMap _ _ cl_GCLive))) (.k rfl (.cells (.r (cleanMap _ _ cl_GCDesk))) (.k rfl (.cells (.k (.a (.k (.c rfl) (.k (.c rfl) (.k (.c rfl) (.k (.c rfl) (.k (.ms rfl rfl) (.k (.c rfl) (.k (.c rfl) (.k (.c rfl) (.k (.ms rfl rfl) (.k (.c rfl) (.k (.ms rfl rfl) .z)))))))))))) .z)) .z)))) (.d (x':=b_11) rfl (by kernel_rfl) (.cells (.r (cleanMap _ _ cl_GTake))) (.d (x':=b_10) rfl (by kernel_rfl) (.cells (.r (cleanMap _ _ cl_GCLive))) (.d (x':=b_12) rfl (by kernel_rfl) (.cells (.r (cleanMap _ _ cl_GCDesk))) (.d (x':=.cells 11 [.agg [.i r58.2.2.1,v_19,.i r4b.1,v_18,.ms 1 0 r58.2.2.2.2.2.1.length,.i r56.2.1,.i r56.2.2.1,v_17,.ms 20 0 r58.2.2.2.2.2.2.2.1.length,.fn 31 [],.ms 21 0 r58.2.2.2.2.2.2.2.2.length]]) rfl (by kernel_rfl) (.cells (.k (.a (.k (.c rfl) (.k (.c rfl) (.k (.c rfl) (.k (.c rfl) (.k (.ms rfl rfl) (.k (.c rfl) (.k (.c rfl) (.k (.c rfl) (.k (.ms rfl rfl) (.k (.c rfl) (.k (.ms rfl rfl) .z)))))))))))) .z)) (.f rfl (by kernel_rfl) .z))))))) ?_
     obtain ⟨j6_76,hj6,h⟩:=bindE h
     refine run_gq (c4 41) (fun (j6_76:Bool)=>(zipE [2,3,9,76] [.i r55,.mp 0 0 0,.i r50,.bool j6_76])) (fun (j6_76:Bool)=>⟨[(0,b_0)],25⟩) (fun j=>j6_76 = j) (fun kj6=>?_) ?_
     ·rcases iteE hj6 with ⟨hc59,hj6⟩ | ⟨hc59,hj6⟩
      ·replace hj6:=Option.some.inj hj6; subst hj6
       exact run1z (c4 41) [{},{},{},{ g:=false },{ g:=false },{ g:=false },{ g:=false },{ g:=false },{ g:=false },{ g:=false },{ g:=false },{ g:=false },{ g:=false },{ k:=1,b:=true }] [2,3,9,76] [.i r55,.mp 0 0 0,.i r50,.bool true] ⟨[(0,b_0)],25⟩ _ (by kernel_rfl) (cjC (hc59) (cjC (hc59) (cjC (hc59) (cjC (hc59) (cjC (hc59) (cjC (hc59) (cjC (hc59) (cjC (hc59) (cjC (hc59) (cjC (hc59) (cj1 (hc59)))))))))))) (kj6 true rfl)
      ·obtain ⟨r60,hr60,hj6⟩:=bindE hj6
       replace hj6:=Option.some.inj hj6; subst hj6
       exact run1z (c4 41) [{},{},{},{},{ c:=some (.i r58.2.2.1,s_9) },{},{},{},{},{},{},{},{},{ k:=1,b:=false }] [2,3,9,76] [.i r55,.mp 0 0 0,.i r50,.bool (decide (r58.2.2.1 ≠ (wr (r50 + (wr (r55 * (wr ((wr ((wr (r53 + 1)) + r54)) - r53))))))))] ⟨[(0,b_0)],25⟩ _ (by kernel_rfl) (cjC (hc59) (cjC (hc59) (cjC (callF (f19_1_ok (⟨(⟨r58.2.2.1⟩:GCClock),r58.2.2.2.1,r4b.1,r58.2.2.2.2.1,r58.2.2.2.2.2.1,r56.2.1,r56.2.2.1,r58.2.2.2.2.2.2.1,(⟨r58.2.2.2.2.2.2.2.1⟩:GCShelf_live),r58.2.2.2.2.2.2.2.2⟩:GCPlayer) _ hr60) [(0,3),(1,4),(2,23),(3,24)] [(24,3),(23,2),(4,1),(3,0)] [0] [.mp 3 0 0] s_9 (.i r58.2.2.1) s_9 (by kernel_rfl) (.k (.mp rfl rfl) .z) (.c rfl) (.k rfl (.cells (.r (cleanMap _ _ cl_GTake))) (.k rfl (.cells (.r (cleanMap _ _ cl_GCLive))) (.k rfl (.cells (.r (cleanMap _ _ cl_GCDesk))) (.k rfl (.cells (.k (.a (.k (.c rfl) (.k (.c rfl) (.k (.c rfl) (.k (.c rfl) (.k (.ms rfl rfl) (.k (.c rfl) (.k (.c rfl) (.k (.c rfl) (.k (.ms rfl rfl) (.k (.c rfl) (.k (.ms rfl rfl) .z)))))))))))) .z)) .z)))) (.d (x':=b_11) rfl (by kernel_rfl) (.cells (.r (cleanMap _ _ cl_GTake))) (.d (x':=b_10) rfl (by kernel_rfl) (.cells (.r (cleanMap _ _ cl_GCLive))) (.d (x':=b_12) rfl (by kernel_rfl) (.cells (.r (cleanMap _ _ cl_GCDesk))) (.d (x':=.cells 11 [.agg [.i r58.2.2.1,v_19,.i r4b.1,v_18,.ms 1 0 r58.2.2.2.2.2.1.length,.i r56.2.1,.i r56.2.2.1,v_17,.ms 2 0 r58.2.2.2.2.2.2.2.1.length,.fn 31 [],.ms 3 0 r58.2.2.2.2.2.2.2.2.length]]) rfl (by kernel_rfl) (.cells (.k (.a (.k (.c rfl) (.k (.c rfl) (.k (.c rfl) (.k (.c rfl) (.k (.ms rfl rfl) (.k (.c rfl) (.k (.c rfl) (.k (.c rfl) (.k (.ms rfl rfl) (.k (.c rfl) (.k (.ms rfl rfl) .z)))))))))))) .z)) (.f rfl (by kernel_rfl) .z)))))) (cjC (hc59) (cjC (hc59) (cjC (hc59) (cjC (hc59) (cjC (hc59) (cjC (hc59) (cjC (hc59) (cjC (hc59) (cj1 (hc59))))))))))))) (kj6 (decide (r58.2.2.1 ≠ (wr (r50 + (wr (r55 * (wr ((wr ((wr (r53 + 1)) + r54)) - r53)))))))) rfl)
     ·rintro _ rfl
      rcases iteE h with ⟨hc61,h⟩ | ⟨hc61,h⟩
      ·refine run_cT 76 (c4 42) (c4 45) j6_76 hc61 (by kernel_rfl) (by kernel_rfl) ?_
       refine run1z (c4 44) [] [6] [.bool false] ⟨[],25⟩ _ (by kernel_rfl) cj0 ?_
       refine run_t (by kernel_rfl) ?_
       refine thenR ?_
       replace h:=Option.some.inj h; subst h
       exact fin_r (by kernel_rfl) rfl
      ·refine run_cF 76 (c4 42) (c4 45) j6_76 hc61 (by kernel_rfl) (by kernel_rfl) ?_
       refine run_k (by kernel_rfl) ?_
       refine thenN ?_
       obtain ⟨r62,hr62,h⟩:=bindE h
       rcases r62 with r62a | r62b
       ·replace h:=elimL h
        refine run1z (c4 48) [{},{ c:=some (.tup [.nilp,.i r62a],⟨[(0,b_0)],29⟩) }] [2,3,7,8,9] [.i r55,.mp 0 0 0,.nilp,.i r62a,.i r50] ⟨[(0,b_0)],29⟩ _ (by kernel_rfl) (cj1 (callF (f11_ok a0 (.inl r62a) hr62) [] [] [0] [E_GConsort a0] ⟨[(0,b_0)],25⟩ (.tup [.nilp,.i r62a]) ⟨[(0,b_0)],29⟩ (by kernel_rfl) (.k (.c (cl_GConsort a0)) .z) (.t (.k (.c rfl) (.k (.c rfl) .z))) .z (.f rfl (by kernel_rfl) .z))) ?_
        refine run_s (c4 49) (c4 56) (by kernel_rfl) ?_
        obtain ⟨j7_90,hj7,h⟩:=bindE h
        refine run_gq (c4 51) (fun (j7_90:Bool)=>(zipE [2,3,7,9,90] [.i r55,.mp 0 0 0,.nilp,.i r50,.bool j7_90])) (fun (j7_90:Bool)=>⟨[(0,b_0)],29⟩) (fun j=>j7_90 = j) (fun kj7=>?_) ?_
        ·rcases iteE hj7 with ⟨hc63,hj7⟩ | ⟨hc63,hj7⟩
         ·replace hj7:=Option.some.inj hj7; subst hj7
          exact run1z (c4 51) [{},{},{},{ g:=false },{ g:=false },{ g:=false },{ g:=false },{ g:=false },{ k:=1,b:=true }] [2,3,7,9,90] [.i r55,.mp 0 0 0,.nilp,.i r50,.bool true] ⟨[(0,b_0)],29⟩ _ (by kernel_rfl) (cjC (hc63) (cjC (hc63) (cjC (hc63) (cjC (hc63) (cjC (hc63) (cj1 (hc63))))))) (kj7 true rfl)
         ·obtain ⟨r64,hr64,hj7⟩:=bindE hj7
          replace hj7:=Option.some.inj hj7; subst hj7
          exact run1z (c4 51) [{},{},{},{},{},{},{ c:=some (.i r64,⟨[(0,b_0)],29⟩) },{},{ k:=1,b:=false }] [2,3,7,9,90] [.i r55,.mp 0 0 0,.nilp,.i r50,.bool (decide (r64 ≠ 0))] ⟨[(0,b_0)],29⟩ _ (by kernel_rfl) (cjC (hc63) (cjC (hc63) (cjC (hc63) (cjC (hc63) (cjC (APure.co (ok:=fun _=>false) (π:=id) (args:=[.nilp,.i 0,.i r50,.i r55]) (f18_ok 0 r50 r55 _ hr64) (.k (.c rfl) (.k (.c rfl) (.k (.c rfl) (.k (.c rfl) .z)))) ⟨[(0,b_0)],29⟩) (cjC (hc63) (cj1 (hc63)))))))) (kj7 (decide (r64 ≠ 0)) rfl)
        ·rintro _ rfl
         rcases iteE h with ⟨hc65,h⟩ | ⟨hc65,h⟩
         ·refine run_cT 90 (c4 52) (c4 55) j7_90 hc65 (by kernel_rfl) (by kernel_rfl) ?_
          refine run1z (c4 54) [] [6] [.bool false] ⟨[],29⟩ _ (by kernel_rfl) cj0 ?_
          refine run_t (by kernel_rfl) ?_
          refine thenR ?_
          replace h:=Option.some.inj h; subst h
          exact fin_r (by kernel_rfl) rfl
         ·refine run_cF 90 (c4 52) (c4 55) j7_90 hc65 (by kernel_rfl) (by kernel_rfl) ?_
          refine run_k (by kernel_rfl) ?_
          refine thenN ?_
          refine run_s (c4 57) (c4 66) (by kernel_rfl) ?_
          obtain ⟨r66,hr66,h⟩:=bindE h
          refine run1z (c4 59) [{},{ c:=some (.tup [.sl false (r66.1.map E_GFrame),.bool r66.2],⟨[(0,b_0)],29⟩) }] [2,3,7,9,15] [.i r55,.mp 0 0 0,.nilp,.i r50,.bool r66.2] ⟨[(0,b_0)],29⟩ _ (by kernel_rfl) (cj1 (APure.co (ok:=fun _=>false) (π:=id) (args:=[.nilp]) (f16_ok  _ hr66) (.k (.c rfl) .z) ⟨[(0,b_0)],29⟩)) ?_
          refine run1z (c4 61) [] [2,3,7,9,97] [.i r55,.mp 0 0 0,.nilp,.i r50,.bool (!r66.2)] ⟨[(0,b_0)],29⟩ _ (by kernel_rfl) cj0 ?_
          rcases iteE h with ⟨hc67,h⟩ | ⟨hc67,h⟩
          ·refine run_cT 97 (c4 62) (c4 65) (!r66.2) hc67 (by kernel_rfl) (by kernel_rfl) ?_
           refine run1z (c4 64) [] [6] [.bool false] ⟨[],29⟩ _ (by kernel_rfl) cj0 ?_
           refine run_t (by kernel_rfl) ?_
           refine thenR ?_
           replace h:=Option.some.inj h; subst h
           exact fin_r (by kernel_rfl) rfl
          ·refine run_cF 97 (c4 62) (c4 65) (!r66.2) hc67 (by kernel_rfl) (by kernel_rfl) ?_
           refine run_k (by kernel_rfl) ?_
           refine thenN ?_
           obtain ⟨r68,hr68,h⟩:=bindE h
           let v_20:AV:=.sl false (r68.map E_GTake)
           refine run1z (c4 68) [{},{ c:=some (v_20,⟨[(0,b_0)],29⟩) }] [2,3,9,16] [.i r55,.mp 0 0 0,.i r50,v_20] ⟨[(0,b_0)],29⟩ _ (by kernel_rfl) (cj1 (APure.co (ok:=fun _=>false) (π:=id) (args:=[.nilp]) (f20_ok  _ hr68) (.k (.c rfl) .z) ⟨[(0,b_0)],29⟩)) ?_
           refine run_s (c4 69) (c4 76) (by kernel_rfl) ?_
           obtain ⟨hn69,h⟩:=needE h
           refine run1z (c4 71) [{},{ k:=1,n:=r68.length },{},{},{ k:=1 }] [2,3,9,16,105] [.i r55,.mp 0 0 0,.i r50,v_20,.bool (decide ((Int.tmod (r68.length:Int) (wr (r55 + 1))) ≠ 0))] ⟨[(0,b_0)],29⟩ _ (by kernel_rfl) (cjC (mapLen r68 E_GTake) (cj1 (hn69))) ?_
           rcases iteE h with ⟨hc70,h⟩ | ⟨hc70,h⟩
           ·refine run_cT 105 (c4 72) (c4 75) (decide ((Int.tmod (r68.length:Int) (wr (r55 + 1))) ≠ 0)) hc70 (by kernel_rfl) (by kernel_rfl) ?_
            refine run1z (c4 74) [] [6] [.bool false] ⟨[],29⟩ _ (by kernel_rfl) cj0 ?_
            refine run_t (by kernel_rfl) ?_
            refine thenR ?_
            replace h:=Option.some.inj h; subst h
            exact fin_r (by kernel_rfl) rfl
           ·refine run_cF 105 (c4 72) (c4 75) (decide ((Int.tmod (r68.length:Int) (wr (r55 + 1))) ≠ 0)) hc70 (by kernel_rfl) (by kernel_rfl) ?_
            refine run_k (by kernel_rfl) ?_
            refine thenN ?_
            let v_21:AV:=.i (wr (Int.tdiv (r68.length:Int) (wr (r55 + 1))))
            refine run1z (c4 78) [{},{ k:=1,n:=r68.length },{},{},{ k:=1 }] [2,3,9,16,17] [.i r55,.mp 0 0 0,.i r50,v_20,v_21] ⟨[(0,b_0)],29⟩ _ (by kernel_rfl) (cjC (mapLen r68 E_GTake) (cj1 (hn69))) ?_
            refine run_s (c4 79) (c4 99) (by kernel_rfl) ?_
            refine run1z (c4 81) [] [2,3,9,16,17,18] [.i r55,.mp 0 0 0,.i r50,v_20,v_21,.i 0] ⟨[(0,b_0)],29⟩ _ (by kernel_rfl) cj0 ?_
            obtain ⟨ol8x,hll8x,h⟩:=bindE h
            refine run_tq (fun (_:Unit)=>(zipE [] [])) (fun (_:Unit)=>⟨[],29⟩) (fun j=>ol8x = .inl j) (fun kl8=>?_) ?_
            ·refine run_b 0 (c4 82) (by kernel_rfl) ?_
             refine run_l (c4 83) _ hll8x (fun (l8_18:Int)=>(zipE [2,3,9,16,17,18] [.i r55,.mp 0 0 0,.i r50,v_20,v_21,.i l8_18])) (fun (l8_18:Int)=>⟨[(0,b_0)],29⟩) [] (by intro i e; cases e <;> exact Nat.le_of_ble_eq_true rfl) (by kernel_rfl) (mkInto (ks:=[2,3,9,16,17,18]) (ys:=[.i r55,.mp 0 0 0,.i r50,v_20,v_21,.i 0]) (by kernel_rfl) (by kernel_rfl) (.k (.c rfl) (.k (.mp rfl rfl) (.k (.c rfl) (.k (.c (cleanMap _ _ cl_GTake)) (.k (.c rfl) (.k (.c rfl) .z)))))) (.k rfl (.cells (.k (.c (cl_GConsort a0)) .z)) .z)) ?_
             rintro l8_18 out hl8 rl8
             refine run_s (c4 84) (c4 89) (by kernel_rfl) ?_
             refine run1z (c4 86) [] [2,3,9,16,17,18,113] [.i r55,.mp 0 0 0,.i r50,v_20,v_21,.i l8_18,.bool (decide (l8_18 ≤ r55))] ⟨[(0,b_0)],29⟩ _ (by kernel_rfl) cj0 ?_
             rcases iteE hl8 with ⟨hc71,hl8⟩ | ⟨hc71,hl8⟩
             ·refine run_cT 113 (c4 87) (c4 88) (decide (l8_18 ≤ r55)) hc71 (by kernel_rfl) (by kernel_rfl) ?_
              refine run_k (by kernel_rfl) ?_
              refine thenN ?_
              refine run_s (c4 90) (c4 98) (by kernel_rfl) ?_
              refine run_b 1 (c4 91) (by kernel_rfl) ?_
              obtain ⟨hn72,hl8⟩:=needE hl8
              obtain ⟨hn73,hl8⟩:=needE hl8
              obtain ⟨hn74,hl8⟩:=needE hl8
              obtain ⟨hn75,hl8⟩:=needE hl8
              obtain ⟨r76,hr76,hl8⟩:=bindE hl8
              refine yun1z (c4 93) [[],[],[],[],[2,3],[],[5],[],[5,6,7],[1,2,3,4,5,6,7,8],[],[],[10,11],[0,1,2,3,4,5,6,7,8,9,10,11,12],[0,1,2,3,4,5,6,7,8,9,10,11,12,13]] [.light 0 false,.light 1 false,.light 2 false,.light 3 false,.light 4 false,.light 5 false,.light 6 false,.light 7 false,.light 8 false,.light 9 false,.light 10 false,.light 11 false,.light 12 false,.heavy 13 [],.light 14 false] [{},{},{},{},{},{},{},{},{},{ k:=1,n:=(wr (l8_18 * (wr (Int.tdiv (r68.length:Int) (wr (r55 + 1)))))).toNat,m:=(wr ((wr (l8_18 + 1)) * (wr (Int.tdiv (r68.length:Int) (wr (r55 + 1)))))).toNat,b:=false,l:=((r68.take (wr ((wr (l8_18 + 1)) * (wr (Int.tdiv (r68.length:Int) (wr (r55 + 1)))))).toNat).drop (wr (l8_18 * (wr (Int.tdiv (r68.length:Int) (wr (r55 + 1)))))).toNat).map E_GTake },{},{},{},{ c:=some (.bool r76,⟨[(0,b_0)],29⟩) }] [2,3,9,16,17,18,130] [.i r55,.mp 0 0 0,.i r50,v_20,v_21,.i l8_18,.bool (!r76)] ⟨[(0,b_0)],29⟩ _ (by kernel_rfl) (cjC (hn74) (cjC (leMap E_GTake hn75) (cjC (fitsMap (P:=Try.prog) (t:=101) (k:=5) r68 E_GTake (by kernel_rfl) sz_GTake) (cjC (Eq.refl false) (cjC (mapSub r68 E_GTake (wr (l8_18 * (wr (Int.tdiv (r68.length:Int) (wr (r55 + 1)))))).toNat (wr ((wr (l8_18 + 1)) * (wr (Int.tdiv (r68.length:Int) (wr (r55 + 1)))))).toNat) (cjC (hn72) (cjC (Eq.refl ((wr (l8_18 * (wr (Int.tdiv (r68.length:Int) (wr (r55 + 1)))))).toNat)) (cjC (hn73) (cjC (Eq.refl ((wr ((wr (l8_18 + 1)) * (wr (Int.tdiv (r68.length:Int) (wr (r55 + 1)))))).toNat)) (cj1 (f21_ok a0 ((r68.take (wr ((wr (l8_18 + 1)) * (wr (Int.tdiv (r68.length:Int) (wr (r55 + 1)))))).toNat).drop (wr (l8_18 * (wr (Int.tdiv (r68.length:Int) (wr (r55 + 1)))))).toNat) (-1) (wr (l8_18 * r50)) _ hr76 ⟨[(0,b_0)],29⟩))))))))))) ?_
              rcases iteE hl8 with ⟨hc77,hl8⟩ | ⟨hc77,hl8⟩
              ·refine run_cT 130 (c4 94) (c4 97) (!r76) hc77 (by kernel_rfl) (by kernel_rfl) ?_
               refine run1z (c4 96) [] [6] [.bool false] ⟨[],29⟩ _ (by kernel_rfl) cj0 ?_
               replace hl8:=Option.some.inj hl8; subst hl8
               have hr:=rl8 _ rfl
               subst hr
               replace h:=elimR h
               refine run_t (by kernel_rfl) ?_
               refine inbR ?_
               refine thenR ?_
               refine ⟨⟨_,rfl⟩,?_⟩
               refine inbR ?_
               refine thenR ?_
               replace h:=Option.some.inj h; subst h
               exact fin_r (by kernel_rfl) rfl
              ·refine run_cF 130 (c4 94) (c4 97) (!r76) hc77 (by kernel_rfl) (by kernel_rfl) ?_
               refine run_k (by kernel_rfl) ?_
               refine inbN ?_
               refine thenN ?_
               refine run0z [] [2,3,9,16,17,18] [.i r55,.mp 0 0 0,.i r50,v_20,v_21,.i (wr (l8_18 + 1))] ⟨[(0,b_0)],29⟩ _ (by kernel_rfl) cj0 ?_
               replace hl8:=Option.some.inj hl8; subst hl8
               exact ⟨_,rfl,pi [],mkInto (ks:=[2,3,9,16,17,18]) (ys:=[.i r55,.mp 0 0 0,.i r50,v_20,v_21,.i (wr (l8_18 + 1))]) (by kernel_rfl) (by kernel_rfl) (.k (.c rfl) (.k (.mp rfl rfl) (.k (.c rfl) (.k (.c (cleanMap _ _ cl_GTake)) (.k (.c rfl) (.k (.c rfl) .z)))))) (.k rfl (.cells (.k (.c (cl_GConsort a0)) .z)) .z)⟩
             ·refine run_cF 113 (c4 87) (c4 88) (decide (l8_18 ≤ r55)) hc71 (by kernel_rfl) (by kernel_rfl) ?_
              replace hl8:=Option.some.inj hl8; subst hl8
              have hr:=rl8 _ rfl
              subst hr
              refine awp_p [] [] (zipE [] []) ⟨[],29⟩ (by kernel_rfl) (?_)
              refine run_e 0 (by kernel_rfl) ?_
              refine thenE ?_
              refine ⟨⟨_,rfl⟩,?_⟩
              refine inbE ?_
              exact kl8 () rfl
            ·rintro ⟨⟩ rfl
             replace h:=elimL h
             refine thenN ?_
             obtain ⟨r78,hr78,h⟩:=bindE h
             refine run1z (c4 101) [{ c:=some (.bool r78,⟨[],29⟩) }] [6] [.bool r78] ⟨[],29⟩ _ (by kernel_rfl) (cj1 (f10_ok  _ hr78 ⟨[],29⟩)) ?_
             refine run_t (by kernel_rfl) ?_
             replace h:=Option.some.inj h; subst h
             exact fin_r (by kernel_rfl) rfl
       ·replace h:=elimR h
        let v_22:AV:=.ms 27 0 r62b.2.length
        let w_9:AV:=.agg [.i 0,.i 0,.i r62b.1,.bool true,v_22,.i 0,.i 0,.i 0,.ms 29 0 ([]:List GCLive).length,.fn 31 [],.ms 28 0 ([]:List GTake).length]
        let b_13:Blk:=.cells 3 (r62b.2.map E_GCDesk)
        let s_10:St:=⟨[(29,b_2),(28,b_4),(27,b_13),(26,.cells 11 [w_9]),(0,b_0)],30⟩
        refine run1z (c4 48) [{},{ c:=some (.tup [.mp 26 0 0,.i 0],s_10) }] [2,3,7,8,9] [.i r55,.mp 0 0 0,.mp 26 0 0,.i 0,.i r50] s_10 _ (by kernel_rfl) (cj1 (callF (f11_ok a0 (.inr r62b) hr62) [] [(29,4),(28,3),(27,2),(26,1)] [0] [E_GConsort a0] ⟨[(0,b_0)],25⟩ (.tup [.mp 26 0 0,.i 0]) s_10 (by kernel_rfl) (.k (.c (cl_GConsort a0)) .z) (.t (.k (.mp rfl rfl) (.k (.c rfl) .z))) .z (.d (x':=b_2) rfl (by kernel_rfl) (.cells (.r (cleanMap _ _ cl_GCLive))) (.d (x':=b_4) rfl (by kernel_rfl) (.cells (.r (cleanMap _ _ cl_GTake))) (.d (x':=b_13) rfl (by kernel_rfl) (.cells (.r (cleanMap _ _ cl_GCDesk))) (.d (x':=.cells 11 [.agg [.i 0,.i 0,.i r62b.1,.bool true,.ms 2 0 r62b.2.length,.i 0,.i 0,.i 0,.ms 4 0 ([]:List GCLive).length,.fn 31 [],.ms 3 0 ([]:List GTake).length]]) rfl (by kernel_rfl) (.cells (.k (.a (.k (.c rfl) (.k (.c rfl) (.k (.c rfl) (.k (.c rfl) (.k (.ms rfl rfl) (.k (.c rfl) (.k (.c rfl) (.k (.c rfl) (.k (.ms rfl rfl) (.k (.c rfl) (.k (.ms rfl rfl) .z)))))))))))) .z)) (.f rfl (by kernel_rfl) .z))))))) ?_
        refine run_s (c4 49) (c4 56) (by kernel_rfl) ?_
        obtain ⟨r79,hr79,h⟩:=bindE h
        let w_10:AV:=.agg [.i 0,.i 0,.i r62b.1,.bool true,v_22,.i r79.2.1,.i r79.2.2.1,.i r79.2.2.2,.ms 29 0 ([]:List GCLive).length,.fn 31 [],.ms 28 0 ([]:List GTake).length]
        let s_11:St:=⟨[(29,b_2),(28,b_4),(27,b_13),(26,.cells 11 [w_10]),(0,b_0)],30⟩
        refine run1z (c4 51) [{},{},{},{},{},{},{ c:=some (.i r79.1,s_11) }] [2,3,7,9,90] [.i r55,.mp 0 0 0,.mp 26 0 0,.i r50,.bool (decide (r79.1 ≠ 0))] s_11 _ (by kernel_rfl) (cjC (Eq.refl false) (cjC (Eq.refl false) (cjC (Eq.refl false) (cjC (Eq.refl false) (cjC (callF (f18_1_ok (⟨(⟨0⟩:GCClock),0,r62b.1,true,r62b.2,0,0,0,(⟨([]:List GCLive)⟩:GCShelf_live),([]:List GTake)⟩:GCPlayer) 0 r50 r55 _ hr79) [(0,26),(1,27),(2,29),(3,28)] [(28,3),(29,2),(27,1),(26,0)] [0] [.mp 26 0 0,.i 0,.i r50,.i r55] s_10 (.i r79.1) s_11 (by kernel_rfl) (.k (.mp rfl rfl) (.k (.c rfl) (.k (.c rfl) (.k (.c rfl) .z)))) (.c rfl) (.k rfl (.cells (.r (cleanMap _ _ cl_GTake))) (.k rfl (.cells (.r (cleanMap _ _ cl_GCLive))) (.k rfl (.cells (.r (cleanMap _ _ cl_GCDesk))) (.k rfl (.cells (.k (.a (.k (.c rfl) (.k (.c rfl) (.k (.c rfl) (.k (.c rfl) (.k (.ms rfl rfl) (.k (.c rfl) (.k (.c rfl) (.k (.c rfl) (.k (.ms rfl rfl) (.k (.c rfl) (.k (.ms rfl rfl) .z)))))))))))) .z)) .z)))) (.d (x':=b_2) rfl (by kernel_rfl) (.cells (.r (cleanMap _ _ cl_GCLive))) (.d (x':=b_4) rfl (by kernel_rfl) (.cells (.r (cleanMap _ _ cl_GTake))) (.d (x':=b_13) rfl (by kernel_rfl) (.cells (.r (cleanMap _ _ cl_GCDesk))) (.d (x':=.cells 11 [.agg [.i 0,.i 0,.i r62b.1,.bool true,.ms 1 0 r62b.2.length,.i r79.2.1,.i r79.2.2.1,.i r79.2.2.2,.ms 2 0 ([]:List GCLive).length,.fn 31 [],.ms 3 0 ([]:List GTake).length]]) rfl (by kernel_rfl) (.cells (.k (.a (.k (.c rfl) (.k (.c rfl) (.k (.c rfl) (.k (.c rfl) (.k (.ms rfl rfl) (.k (.c rfl) (.k (.c rfl) (.k (.c rfl) (.k (.ms rfl rfl) (.k (.c rfl) (.k (.ms rfl rfl) .z)))))))))))) .z)) (.f rfl (by kernel_rfl) .z)))))) (cj1 (Eq.refl false))))))) ?_
        rcases iteE h with ⟨hc80,h⟩ | ⟨hc80,h⟩
        ·refine run_cT 90 (c4 52) (c4 55) (decide (r79.1 ≠ 0)) hc80 (by kernel_rfl) (by kernel_rfl) ?_
         refine run1z (c4 54) [] [6] [.bool false] ⟨[],30⟩ _ (by kernel_rfl) cj0 ?_
         refine run_t (by kernel_rfl) ?_
         refine thenR ?_
         replace h:=Option.some.inj h; subst h
         exact fin_r (by kernel_rfl) rfl
        ·refine run_cF 90 (c4 52) (c4 55) (decide (r79.1 ≠ 0)) hc80 (by kernel_rfl) (by kernel_rfl) ?_
         refine run_k (by kernel_rfl) ?_
         refine thenN ?_
         refine run_s (c4 57) (c4 66) (by kernel_rfl) ?_
         obtain ⟨r81,hr81,h⟩:=bindE h
         let v_23:AV:=.ms 46 0 r81.2.2.2.2.2.2.2.1.length
         let v_24:AV:=.ms 47 0 r81.2.2.2.2.2.2.2.2.length
         let v_25:AV:=.ms 27 0 r81.2.2.2.2.2.1.length
         let v_26:AV:=.i r81.2.2.2.2.2.2.1
         let v_27:AV:=.bool r81.2.2.2.2.1
         let v_28:AV:=.i r81.2.2.2.1
         let w_11:AV:=.agg [.i r81.2.2.1,v_28,.i r62b.1,v_27,v_25,.i r79.2.1,.i r79.2.2.1,v_26,v_23,.fn 31 [],v_24]
         let w_12:AV:=.tup [.sl false (r81.1.map E_GFrame),.bool r81.2.1]
         let b_14:Blk:=.cells 7 (r81.2.2.2.2.2.2.2.1.map E_GCLive)
         let b_15:Blk:=.cells 5 (r81.2.2.2.2.2.2.2.2.map E_GTake)
         let b_16:Blk:=.cells 3 (r81.2.2.2.2.2.1.map E_GCDesk)
         let b_17:Blk:=.cells 11 [w_11]
         let s_12:St:=⟨[(47,b_15),(46,b_14),(27,b_16),(26,b_17),(0,b_0)],48⟩
         refine run1z (c4 59) [{},{ c:=some (w_12,s_12) }] [2,3,7,9,15] [.i r55,.mp 0 0 0,.mp 26 0 0,.i r50,.bool r81.2.1] s_12 _ (by kernel_rfl) (cj1 (callF (f16_1_ok (⟨(⟨0⟩:GCClock),0,r62b.1,true,r62b.2,r79.2.1,r79.2.2.1,r79.2.2.2,(⟨([]:List GCLive)⟩:GCShelf_live),([]:List GTake)⟩:GCPlayer) _ hr81) [(0,26),(1,27),(2,29),(3,28)] [(47,21),(46,20),(27,1),(26,0)] [0] [.mp 26 0 0] s_11 (w_12) s_12 (by kernel_rfl) (.k (.mp rfl rfl) .z) (.t (.k (.c (cleanMap _ _ cl_GFrame)) (.k (.c rfl) .z))) (.k rfl (.cells (.r (cleanMap _ _ cl_GTake))) (.k rfl (.cells (.r (cleanMap _ _ cl_GCLive))) (.k rfl (.cells (.r (cleanMap _ _ cl_GCDesk))) (.k rfl (.cells (.k (.a (.k (.c rfl) (.k (.c rfl) (.k (.c rfl) (.k (.c rfl) (.k (.ms rfl rfl) (.k (.c rfl) (.k (.c rfl) (.k (.c rfl) (.k (.ms rfl rfl) (.k (.c rfl) (.k (.ms rfl rfl) .z)))))))))))) .z)) .z)))) (.d (x':=b_15) rfl (by kernel_rfl) (.cells (.r (cleanMap _ _ cl_GTake))) (.d (x':=b_14) rfl (by kernel_rfl) (.cells (.r (cleanMap _ _ cl_GCLive))) (.d (x':=b_16) rfl (by kernel_rfl) (.cells (.r (cleanMap _ _ cl_GCDesk))) (.d (x':=.cells 11 [.agg [.i r81.2.2.1,v_28,.i r62b.1,v_27,.ms 1 0 r81.2.2.2.2.2.1.length,.i r79.2.1,.i r79.2.2.1,v_26,.ms 20 0 r81.2.2.2.2.2.2.2.1.length,.fn 31 [],.ms 21 0 r81.2.2.2.2.2.2.2.2.length]]) rfl (by kernel_rfl) (.cells (.k (.a (.k (.c rfl) (.k (.c rfl) (.k (.c rfl) (.k (.c rfl) (.k (.ms rfl rfl) (.k (.c rfl) (.k (.c rfl) (.k (.c rfl) (.k (.ms rfl rfl) (.k (.c rfl) (.k (.ms rfl rfl) .z)))))))))))) .z)) (.f rfl (by kernel_rfl) .z))))))) ?_
         refine run1z (c4 61) [] [2,3,7,9,97] [.i r55,.mp 0 0 0,.mp 26 0 0,.i r50,.bool (!r81.2.1)] s_12 _ (by kernel_rfl) cj0 ?_
         rcases iteE h with ⟨hc82,h⟩ | ⟨hc82,h⟩
         ·refine run_cT 97 (c4 62) (c4 65) (!r81.2.1) hc82 (by kernel_rfl) (by kernel_rfl) ?_
          refine run1z (c4 64) [] [6] [.bool false] ⟨[],48⟩ _ (by kernel_rfl) cj0 ?_
          refine run_t (by kernel_rfl) ?_
          refine thenR ?_
          replace h:=Option.some.inj h; subst h
          exact fin_r (by kernel_rfl) rfl
         ·refine run_cF 97 (c4 62) (c4 65) (!r81.2.1) hc82 (by kernel_rfl) (by kernel_rfl) ?_
          refine run_k (by kernel_rfl) ?_
          refine thenN ?_
          obtain ⟨r83,hr83,h⟩:=bindE h
          let v_29:AV:=.sl false (r83.map E_GTake)
          let s_13:St:=⟨[(47,b_15),(46,b_14),(27,b_16),(26,b_17),(0,b_0)],51⟩
          refine run1z (c4 68) [{},{ c:=some (v_29,s_13) }] [2,3,9,16] [.i r55,.mp 0 0 0,.i r50,v_29] ⟨[(0,b_0)],51⟩ _ (by kernel_rfl) (cj1 (callF (f20_1_ok (⟨(⟨r81.2.2.1⟩:GCClock),r81.2.2.2.1,r62b.1,r81.2.2.2.2.1,r81.2.2.2.2.2.1,r79.2.1,r79.2.2.1,r81.2.2.2.2.2.2.1,(⟨r81.2.2.2.2.2.2.2.1⟩:GCShelf_live),r81.2.2.2.2.2.2.2.2⟩:GCPlayer) _ hr83) [(0,26),(1,27),(2,46),(3,47)] [(47,3),(46,2),(27,1),(26,0)] [0] [.mp 26 0 0] s_12 (v_29) s_13 (by kernel_rfl) (.k (.mp rfl rfl) .z) (.c (cleanMap _ _ cl_GTake)) (.k rfl (.cells (.r (cleanMap _ _ cl_GTake))) (.k rfl (.cells (.r (cleanMap _ _ cl_GCLive))) (.k rfl (.cells (.r (cleanMap _ _ cl_GCDesk))) (.k rfl (.cells (.k (.a (.k (.c rfl) (.k (.c rfl) (.k (.c rfl) (.k (.c rfl) (.k (.ms rfl rfl) (.k (.c rfl) (.k (.c rfl) (.k (.c rfl) (.k (.ms rfl rfl) (.k (.c rfl) (.k (.ms rfl rfl) .z)))))))))))) .z)) .z)))) (.d (x':=b_15) rfl (by kernel_rfl) (.cells (.r (cleanMap _ _ cl_GTake))) (.d (x':=b_14) rfl (by kernel_rfl) (.cells (.r (cleanMap _ _ cl_GCLive))) (.d (x':=b_16) rfl (by kernel_rfl) (.cells (.r (cleanMap _ _ cl_GCDesk))) (.d (x':=.cells 11 [.agg [.i r81.2.2.1,v_28,.i r62b.1,v_27,.ms 1 0 r81.2.2.2.2.2.1.length,.i r79.2.1,.i r79.2.2.1,v_26,.ms 2 0 r81.2.2.2.2.2.2.2.1.length,.fn 31 [],.ms 3 0 r81.2.2.2.2.2.2.2.2.length]]) rfl (by kernel_rfl) (.cells (.k (.a (.k (.c rfl) (.k (.c rfl) (.k (.c rfl) (.k (.c rfl) (.k (.ms rfl rfl) (.k (.c rfl) (.k (.c rfl) (.k (.c rfl) (.k (.ms rfl rfl) (.k (.c rfl) (.k (.ms rfl rfl) .z)))))))))))) .z)) (.f rfl (by kernel_rfl) .z))))))) ?_
          refine run_s (c4 69) (c4 76) (by kernel_rfl) ?_
          obtain ⟨hn84,h⟩:=needE h
          refine run1z (c4 71) [{},{ k:=1,n:=r83.length },{},{},{ k:=1 }] [2,3,9,16,105] [.i r55,.mp 0 0 0,.i r50,v_29,.bool (decide ((Int.tmod (r83.length:Int) (wr (r55 + 1))) ≠ 0))] ⟨[(0,b_0)],51⟩ _ (by kernel_rfl) (cjC (mapLen r83 E_GTake) (cj1 (hn84))) ?_
          rcases iteE h with ⟨hc85,h⟩ | ⟨hc85,h⟩
          ·refine run_cT 105 (c4 72) (c4 75) (decide ((Int.tmod (r83.length:Int) (wr (r55 + 1))) ≠ 0)) hc85 (by kernel_rfl) (by kernel_rfl) ?_
           refine run1z (c4 74) [] [6] [.bool false] ⟨[],51⟩ _ (by kernel_rfl) cj0 ?_
           refine run_t (by kernel_rfl) ?_
           refine thenR ?_
           replace h:=Option.some.inj h; subst h
           exact fin_r (by kernel_rfl) rfl
          ·refine run_cF 105 (c4 72) (c4 75) (decide ((Int.tmod (r83.length:Int) (wr (r55 + 1))) ≠ 0)) hc85 (by kernel_rfl) (by kernel_rfl) ?_
           refine run_k (by kernel_rfl) ?_
           refine thenN ?_
           let v_30:AV:=.i (wr (Int.tdiv (r83.length:Int) (wr (r55 + 1))))
           refine run1z (c4 78) [{},{ k:=1,n:=r83.length },{},{},{ k:=1 }] [2,3,9,16,17] [.i r55,.mp 0 0 0,.i r50,v_29,v_30] ⟨[(0,b_0)],51⟩ _ (by kernel_rfl) (cjC (mapLen r83 E_GTake) (cj1 (hn84))) ?_
           refine run_s (c4 79) (c4 99) (by kernel_rfl) ?_
           refine run1z (c4 81) [] [2,3,9,16,17,18] [.i r55,.mp 0 0 0,.i r50,v_29,v_30,.i 0] ⟨[(0,b_0)],51⟩ _ (by kernel_rfl) cj0 ?_
           obtain ⟨ol9x,hll9x,h⟩:=bindE h
           refine run_tq (fun (_:Unit)=>(zipE [] [])) (fun (_:Unit)=>⟨[],51⟩) (fun j=>ol9x = .inl j) (fun kl9=>?_) ?_
           ·refine run_b 0 (c4 82) (by kernel_rfl) ?_
            refine run_l (c4 83) _ hll9x (fun (l9_18:Int)=>(zipE [2,3,9,16,17,18] [.i r55,.mp 0 0 0,.i r50,v_29,v_30,.i l9_18])) (fun (l9_18:Int)=>⟨[(0,b_0)],51⟩) [] (by intro i e; cases e <;> exact Nat.le_of_ble_eq_true rfl) (by kernel_rfl) (mkInto (ks:=[2,3,9,16,17,18]) (ys:=[.i r55,.mp 0 0 0,.i r50,v_29,v_30,.i 0]) (by kernel_rfl) (by kernel_rfl) (.k (.c rfl) (.k (.mp rfl rfl) (.k (.c rfl) (.k (.c (cleanMap _ _ cl_GTake)) (.k (.c rfl) (.k (.c rfl) .z)))))) (.k rfl (.cells (.k (.c (cl_GConsort a0)) .z)) .z)) ?_
            rintro l9_18 out hl9 rl9
            refine run_s (c4 84) (c4 89) (by kernel_rfl) ?_
            refine run1z (c4 86) [] [2,3,9,16,17,18,113] [.i r55,.mp 0 0 0,.i r50,v_29,v_30,.i l9_18,.bool (decide (l9_18 ≤ r55))] ⟨[(0,b_0)],51⟩ _ (by kernel_rfl) cj0 ?_
            rcases iteE hl9 with ⟨hc86,hl9⟩ | ⟨hc86,hl9⟩
            ·refine run_cT 113 (c4 87) (c4 88) (decide (l9_18 ≤ r55)) hc86 (by kernel_rfl) (by kernel_rfl) ?_
             refine run_k (by kernel_rfl) ?_
             refine thenN ?_
             refine run_s (c4 90) (c4 98) (by kernel_rfl) ?_
             refine run_b 1 (c4 91) (by kernel_rfl) ?_
             obtain ⟨hn87,hl9⟩:=needE hl9
             obtain ⟨hn88,hl9⟩:=needE hl9
             obtain ⟨hn89,hl9⟩:=needE hl9
             obtain ⟨hn90,hl9⟩:=needE hl9
             obtain ⟨r91,hr91,hl9⟩:=bindE hl9
             refine yun1z (c4 93) [[],[],[],[],[2,3],[],[5],[],[5,6,7],[1,2,3,4,5,6,7,8],[],[],[10,11],[0,1,2,3,4,5,6,7,8,9,10,11,12],[0,1,2,3,4,5,6,7,8,9,10,11,12,13]] [.light 0 false,.light 1 false,.light 2 false,.light 3 false,.light 4 false,.light 5 false,.light 6 false,.light 7 false,.light 8 false,.light 9 false,.light 10 false,.light 11 false,.light 12 false,.heavy 13 [],.light 14 false] [{},{},{},{},{},{},{},{},{},{ k:=1,n:=(wr (l9_18 * (wr (Int.tdiv (r83.length:Int) (wr (r55 + 1)))))).toNat,m:=(wr ((wr (l9_18 + 1)) * (wr (Int.tdiv (r83.length:Int) (wr (r55 + 1)))))).toNat,b:=false,l:=((r83.take (wr ((wr (l9_18 + 1)) * (wr (Int.tdiv (r83.length:Int) (wr (r55 + 1)))))).toNat).drop (wr (l9_18 * (wr (Int.tdiv (r83.length:Int) (wr (r55 + 1)))))).toNat).map E_GTake },{},{},{},{ c:=some (.bool r91,⟨[(0,b_0)],51⟩) }] [2,3,9,16,17,18,130] [.i r55,.mp 0 0 0,.i r50,v_29,v_30,.i l9_18,.bool (!r91)] ⟨[(0,b_0)],51⟩ _ (by kernel_rfl) (cjC (hn89) (cjC (leMap E_GTake hn90) (cjC (fitsMap (P:=Try.prog) (t:=101) (k:=5) r83 E_GTake (by kernel_rfl) sz_GTake) (cjC (Eq.refl false) (cjC (mapSub r83 E_GTake (wr (l9_18 * (wr (Int.tdiv (r83.length:Int) (wr (r55 + 1)))))).toNat (wr ((wr (l9_18 + 1)) * (wr (Int.tdiv (r83.length:Int) (wr (r55 + 1)))))).toNat) (cjC (hn87) (cjC (Eq.refl ((wr (l9_18 * (wr (Int.tdiv (r83.length:Int) (wr (r55 + 1)))))).toNat)) (cjC (hn88) (cjC (Eq.refl ((wr ((wr (l9_18 + 1)) * (wr (Int.tdiv (r83.length:Int) (wr (r55 + 1)))))).toNat)) (cj1 (f21_ok a0 ((r83.take (wr ((wr (l9_18 + 1)) * (wr (Int.tdiv (r83.length:Int) (wr (r55 + 1)))))).toNat).drop (wr (l9_18 * (wr (Int.tdiv (r83.length:Int) (wr (r55 + 1)))))).toNat) (-1) (wr (l9_18 * r50)) _ hr91 ⟨[(0,b_0)],51⟩))))))))))) ?_
             rcases iteE hl9 with ⟨hc92,hl9⟩ | ⟨hc92,hl9⟩
             ·refine run_cT 130 (c4 94) (c4 97) (!r91) hc92 (by kernel_rfl) (by kernel_rfl) ?_
              refine run1z (c4 96) [] [6] [.bool false] ⟨[],51⟩ _ (by kernel_rfl) cj0 ?_
              replace hl9:=Option.some.inj hl9; subst hl9
              have hr:=rl9 _ rfl
              subst hr
              replace h:=elimR h
              refine run_t (by kernel_rfl) ?_
              refine inbR ?_
              refine thenR ?_
              refine ⟨⟨_,rfl⟩,?_⟩
              refine inbR ?_
              refine thenR ?_
              replace h:=Option.some.inj h; subst h
              exact fin_r (by kernel_rfl) rfl
             ·refine run_cF 130 (c4 94) (c4 97) (!r91) hc92 (by kernel_rfl) (by kernel_rfl) ?_
              refine run_k (by kernel_rfl) ?_
              refine inbN ?_
              refine thenN ?_
              refine run0z [] [2,3,9,16,17,18] [.i r55,.mp 0 0 0,.i r50,v_29,v_30,.i (wr (l9_18 + 1))] ⟨[(0,b_0)],51⟩ _ (by kernel_rfl) cj0 ?_
              replace hl9:=Option.some.inj hl9; subst hl9
              exact ⟨_,rfl,pi [],mkInto (ks:=[2,3,9,16,17,18]) (ys:=[.i r55,.mp 0 0 0,.i r50,v_29,v_30,.i (wr (l9_18 + 1))]) (by kernel_rfl) (by kernel_rfl) (.k (.c rfl) (.k (.mp rfl rfl) (.k (.c rfl) (.k (.c (cleanMap _ _ cl_GTake)) (.k (.c rfl) (.k (.c rfl) .z)))))) (.k rfl (.cells (.k (.c (cl_GConsort a0)) .z)) .z)⟩
            ·refine run_cF 113 (c4 87) (c4 88) (decide (l9_18 ≤ r55)) hc86 (by kernel_rfl) (by kernel_rfl) ?_
             replace hl9:=Option.some.inj hl9; subst hl9
             have hr:=rl9 _ rfl
             subst hr
             refine awp_p [] [] (zipE [] []) ⟨[],51⟩ (by kernel_rfl) (?_)
             refine run_e 0 (by kernel_rfl) ?_
             refine thenE ?_
             refine ⟨⟨_,rfl⟩,?_⟩
             refine inbE ?_
             exact kl9 () rfl
           ·rintro ⟨⟩ rfl
            replace h:=elimL h
            refine thenN ?_
            obtain ⟨r93,hr93,h⟩:=bindE h
            refine run1z (c4 101) [{ c:=some (.bool r93,⟨[],51⟩) }] [6] [.bool r93] ⟨[],51⟩ _ (by kernel_rfl) (cj1 (f10_ok  _ hr93 ⟨[],51⟩)) ?_
            refine run_t (by kernel_rfl) ?_
            replace h:=Option.some.inj h; subst h
            exact fin_r (by kernel_rfl) rfl
end Go.Proofs.Ytpljabnngpnieaa
