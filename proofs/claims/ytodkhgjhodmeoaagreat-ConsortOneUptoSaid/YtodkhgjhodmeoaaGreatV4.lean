/-
 Functions of the program as Lean functions,and the walks. Written by a program of ours.
-/
import Derived.Test.YtodkhgjhodmeoaaGreatV4a
import Derived.Test.YtodkhgjhodmeoaaGreatV4b
namespace Go.Proofs.YtodkhgjhodmeoaaGreat
open Go Go.Am
set_option maxRecDepth 100000
set_option linter.all false
noncomputable def c137 (k:Nat):Code:=nthC (subs (Tryz.f137.body.getD .skip)) k
noncomputable def c138 (k:Nat):Code:=nthC (subs (Tryz.f138.body.getD .skip)) k
noncomputable def c85 (k:Nat):Code:=nthC (subs (Tryz.f85.body.getD .skip)) k
noncomputable def c34 (k:Nat):Code:=nthC (subs (Tryz.f34.body.getD .skip)) k
noncomputable def c4 (k:Nat):Code:=nthC (subs (Tryz.f4.body.getD .skip)) k
def f112 (a0:GInstrument):Option GInstrument:=((bif (decide (a0.courses = [])) then (bif (decide (a0.steps = [])) then (some (([]:List GCourse),([]:List Int))) else (need (a0.steps.length ≤ maxElems) <| some (([]:List GCourse),a0.steps))) else (need (a0.courses.length ≤ maxElems) <| bif (decide (a0.steps = [])) then (some (a0.courses,([]:List Int))) else (need (a0.steps.length ≤ maxElems) <| some (a0.courses,a0.steps)))):Option (List GCourse × List Int)).bind fun ((j1_h1_0,j1_h1_1):(List GCourse × List Int))=>some (⟨j1_h1_0,j1_h1_1⟩:GInstrument)
def f83 (a0:GPiece):Option (List GCourse × List Int × List GEvent):=(f112 a0.instrument).bind fun r1=>(loopN (σ:=(List GEvent × Int)) (τ:=(List GEvent)) (fun ((l1_h2_2,l1_4):(List GEvent × Int))=>bif (decide (l1_4 < (a0.events.length:Int))) then ((ix a0.events l1_4).bind fun y3=>((bif (decide (y3.stops = [])) then (some ([]:List GStop)) else (need (y3.stops.length ≤ maxElems) <| some y3.stops)):Option (List GStop)).bind fun (j2_h4_5:(List GStop))=>need (l1_h2_2.length + 1 ≤ maxElems) <| some (.inl ((l1_h2_2 ++ [(⟨y3.bar,y3.sign,y3.tie,j2_h4_5⟩:GEvent)]),(wr (l1_4 + 1))))) else (some (.inr l1_h2_2))) FUEL (([]:List GEvent),0)).bind fun (l1x_h2_2:(List GEvent))=>some (r1.courses,r1.steps,l1x_h2_2)
def f136 :Option ((List GSign)):=(loopN (σ:=(List GSign × Int)) (τ:=(List GSign)) (fun ((l1_1,l1_2):(List GSign × Int))=>bif (decide (l1_2 ≤ 7)) then (need (l1_1.length + 3 ≤ maxElems) <| some (.inl ((l1_1 ++ [(⟨l1_2,true,false⟩:GSign),(⟨(wr (l1_2 - 1)),false,true⟩:GSign),(⟨l1_2,false,false⟩:GSign)]),(wr (l1_2 + 1))))) else (some (.inr l1_1))) FUEL (([(⟨1,true,false⟩:GSign),(⟨1,false,false⟩:GSign)]:List GSign),2)).bind fun (l1x_1:(List GSign))=>need (l1x_1.length + 1 ≤ maxElems) <| some (l1x_1 ++ [(⟨7,false,true⟩:GSign)])
def f135 (a0:Int):Option ((List Int)):=(f136).bind fun r1=>need (0 ≤ (wr (a0 + 1))) <| need ((wr (a0 + 1)) ≤ (maxElems:Int)) <| (loopN (σ:=(List Int × Int)) (τ:=(List Int)) (fun ((l1_4,l1_5):(List Int × Int))=>bif (decide (l1_5 ≤ a0)) then ((ix l1_4 l1_5).bind fun y5=>(loopN (σ:=(List Int × Int)) (τ:=(List Int)) (fun ((l2_4,l2_6):(List Int × Int))=>bif (decide (l2_6 < (r1.length:Int))) then ((((ix r1 l2_6).bind fun y7=>(f117 y7).bind fun r8=>((bif (decide (r8 ≤ l1_5)) then ((ix l2_4 (wr (l1_5 - r8))).bind fun y10=>bif (decide (0 ≤ y10)) then ((ix l2_4 l1_5).bind fun y12=>bif (decide (y12 < 0)) then (some true) else (some (decide ((wr (y10 + 1)) < y12)))) else (some false)) else (some false)):Option Bool).bind fun (j4_63:Bool)=>bif j4_63 then ((ix l2_4 (wr (l1_5 - r8))).bind fun y15=>(ix l2_4 l1_5).bind fun y16=>some (l2_4.set l1_5.toNat (wr (y15 + 1)))) else (some l2_4)):Option (List Int)).bind fun (j3_4:(List Int))=>some (.inl (j3_4,(wr (l2_6 + 1))))) else (some (.inr l2_4))) FUEL ((l1_4.set l1_5.toNat (-1)),0)).bind fun (l2x_4:(List Int))=>some (.inl (l2x_4,(wr (l1_5 + 1))))) else (some (.inr l1_4))) FUEL ((List.replicate (wr (a0 + 1)).toNat (0:Int)),1)).bind fun (l1x_4:(List Int))=>some l1x_4
def f84 (a0:Int):Option (((List GSign)) × Int):=((bif (decide (a0 < 0)) then (some true) else (some (decide (4608 < a0)))):Option Bool).bind fun (j1_14:Bool)=>bif j1_14 then (some (([]:List GSign),1)) else ((f135 a0).bind fun r3=>(ix r3 a0).bind fun y4=>bif (decide (y4 < 0)) then (some (([]:List GSign),25)) else ((f136).bind fun r6=>(loopN (σ:=(Int × List GSign)) (τ:=(List GSign)) (fun ((l2_0,l2_6):(Int × List GSign))=>bif (decide (0 < l2_0)) then ((loopN (σ:=Int) (τ:=(Int × List GSign)) (fun (l3_7:Int)=>bif (decide (l3_7 < (r6.length:Int))) then ((ix r6 l3_7).bind fun y9=>(f117 y9).bind fun r10=>((bif (decide (r10 ≤ l2_0)) then ((ix r3 (wr (l2_0 - r10))).bind fun y12=>(ix r3 l2_0).bind fun y13=>some (decide (y12 = (wr (y13 - 1))))) else (some false)):Option Bool).bind fun (j4_52:Bool)=>bif j4_52 then (need (l2_6.length + 1 ≤ maxElems) <| some (.inr ((wr (l2_0 - r10)),(l2_6 ++ [y9])))) else (some (.inl (wr (l3_7 + 1))))) else (some (.inr (l2_0,l2_6)))) FUEL 0).bind fun ((l3x_0,l3x_6):(Int × List GSign))=>some (.inl (l3x_0,l3x_6))) else (some (.inr l2_6))) FUEL (a0,([]:List GSign))).bind fun (l2x_6:(List GSign))=>some (l2x_6,0)))
def f33 (a0:List GPiece):Option (GConsort × Int):=(f78 a0).bind fun r1=>bif (decide (r1.2 ≠ 0)) then (some ((⟨([]:List GPiece)⟩:GConsort),r1.2)) else ((loopN (σ:=(Int × Int)) (τ:=Int) (fun ((l1_6,l1_7):(Int × Int))=>bif (decide (l1_7 < (r1.1.length:Int))) then ((ix r1.1 l1_7).bind fun y4=>some (.inl ((maxI l1_6 y4),(wr (l1_7 + 1))))) else (some (.inr l1_6))) FUEL (0,0)).bind fun (l1x_6:Int)=>(loopN (σ:=(List GPiece × Int)) (τ:=((List GPiece) ⊕ (GConsort × Int))) (fun ((l2_h1_0,l2_9):(List GPiece × Int))=>bif (decide (l2_9 < (a0.length:Int))) then ((ix a0 l2_9).bind fun y6=>(f83 y6).bind fun r7=>(ix r1.1 l2_9).bind fun y8=>(f84 (wr (l1x_6 - y8))).bind fun r9=>bif (decide (r9.2 ≠ 0)) then (some (.inr (.inr ((⟨([]:List GPiece)⟩:GConsort),25)))) else (bif (decide (400 < (wr ((r7.2.2.length:Int) + (r9.1.length:Int))))) then (some (.inr (.inr ((⟨([]:List GPiece)⟩:GConsort),2)))) else ((loopN (σ:=(List GEvent × Int)) (τ:=(List GEvent)) (fun ((l3_h7_2,l3_13):(List GEvent × Int))=>bif (decide (l3_13 < (r9.1.length:Int))) then ((ix r9.1 l3_13).bind fun y13=>need (l3_h7_2.length + 1 ≤ maxElems) <| some (.inl ((l3_h7_2 ++ [(⟨false,y13,false,([]:List GStop)⟩:GEvent)]),(wr (l3_13 + 1))))) else (some (.inr l3_h7_2))) FUEL (r7.2.2,0)).bind fun (l3x_h7_2:(List GEvent))=>need (l2_h1_0.length + 1 ≤ maxElems) <| some (.inl ((l2_h1_0 ++ [(⟨(⟨r7.1,r7.2.1⟩:GInstrument),l3x_h7_2⟩:GPiece)]),(wr (l2_9 + 1))))))) else (some (.inr (.inl l2_h1_0)))) FUEL (([]:List GPiece),0)).bind (Sum.elim (fun (l2x_h1_0:(List GPiece))=>some ((⟨l2x_h1_0⟩:GConsort),0)) some))
def f137 (a0:GInstrument) (a1:GInstrument):Option Bool:=((bif (decide ((a0.courses.length:Int) ≠ (a1.courses.length:Int))) then (some true) else (some (decide ((a0.steps.length:Int) ≠ (a1.steps.length:Int))))):Option Bool).bind fun (j1_22:Bool)=>bif j1_22 then (some false) else ((loopN (σ:=Int) (τ:=(Unit ⊕ Bool)) (fun (l2_5:Int)=>bif (decide (l2_5 < (a0.courses.length:Int))) then ((ix a0.courses l2_5).bind fun y4=>(ix a1.courses l2_5).bind fun y5=>bif (!(eq_GCourse y4 y5)) then (some (.inr (.inr false))) else (some (.inl (wr (l2_5 + 1))))) else (some (.inr (.inl ())))) FUEL 0).bind (Sum.elim (fun (_:Unit)=>(loopN (σ:=Int) (τ:=(Unit ⊕ Bool)) (fun (l3_6:Int)=>bif (decide (l3_6 < (a0.steps.length:Int))) then ((ix a0.steps l3_6).bind fun y8=>(ix a1.steps l3_6).bind fun y9=>bif (decide (y8 ≠ y9)) then (some (.inr (.inr false))) else (some (.inl (wr (l3_6 + 1))))) else (some (.inr (.inl ())))) FUEL 0).bind (Sum.elim (fun (_:Unit)=>some true) some)) some))
theorem f137_ok (a0:GInstrument) (a1:GInstrument) (r:Bool) (h:f137 a0 a1 = some r):APure Tryz.prog 137 [E_GInstrument a0,E_GInstrument a1] (.bool r):=by
 refine apure (clK (cl_GInstrument a0) (clK (cl_GInstrument a1) clZ)) rfl ?_
 refine wf 59 [.tmp 4] (c137 0) ?_
 unfold f137 at h
 obtain ⟨j1_22,hj1,h⟩:=bindE h
 refine W 2 [] cj0 ?_
 let b_0:Blk:=.cells 2 [E_GInstrument a1]
 let b_1:Blk:=.cells 2 [E_GInstrument a0]
 let s_0:St:=⟨[(1,b_0),(0,b_1)],2⟩
 refine wG (fun (j1_22:Bool)=>(zipE [2,3,22] [.mp 0 0 0,.mp 1 0 0,.bool j1_22])) (fun (j1_22:Bool)=>s_0) (fun j=>j1_22 = j) (fun kj1=>?_) ?_
 ·rcases iteE hj1 with ⟨hc1,hj1⟩ | ⟨hc1,hj1⟩
  ·replace hj1:=Option.some.inj hj1; subst hj1
   exact wX 1 [.r [{},{},{ k:=1,n:=a0.courses.length },{},{},{ k:=1,n:=a1.courses.length },{},{},{ g:=false },{ g:=false },{ g:=false },{ g:=false },{ g:=false },{ g:=false },{ g:=false },{ k:=1,b:=true }]] (cjC (mapLen a0.courses E_GCourse) (cjC (mapLen a1.courses E_GCourse) (cjC hc1 (cjC hc1 (cjC hc1 (cjC hc1 (cjC hc1 (cjC hc1 (cjC hc1 (cj1 hc1)))))))))) (kj1 true rfl)
  ·replace hj1:=Option.some.inj hj1; subst hj1
   exact wX 1 [.r [{},{},{ k:=1,n:=a0.courses.length },{},{},{ k:=1,n:=a1.courses.length },{},{},{},{},{ k:=1,n:=a0.steps.length },{},{},{ k:=1,n:=a1.steps.length },{},{ k:=1,b:=false }]] (cjC (mapLen a0.courses E_GCourse) (cjC (mapLen a1.courses E_GCourse) (cjC hc1 (cjC hc1 (cjC hc1 (cjC (mapLen a0.steps AV.i) (cjC hc1 (cjC hc1 (cjC hc1 (cjC (mapLen a1.steps AV.i) (cjC hc1 (cj1 hc1)))))))))))) (kj1 (decide ((a0.steps.length:Int) ≠ (a1.steps.length:Int))) rfl)
 ·rintro _ rfl
  rcases iteE h with ⟨hc2,h⟩ | ⟨hc2,h⟩
  ·replace h:=Option.some.inj h; subst h
   exact wR 4 [.t] (cj1 hc2)
  ·obtain ⟨ol2x,hll2x,h⟩:=bindE h
   refine W 5 [.f] (cj1 hc2) ?_
   refine wJ (fun (_:Unit)=>(zipE [2,3] [.mp 0 0 0,.mp 1 0 0])) (fun (_:Unit)=>s_0) (fun j=>ol2x = .inl j) (fun kl2=>?_) ?_
   ·refine wL 1 [] cj0 hll2x 2 (fun (l2_5:Int)=>(zipE [2,3,5] [.mp 0 0 0,.mp 1 0 0,.i l2_5])) (fun (l2_5:Int)=>s_0) ?_
    rintro l2_5 out hl2 rl2 Kl2
    refine W 2 [.r [{},{},{},{ k:=1,n:=a0.courses.length }]] (cj1 (mapLen a0.courses E_GCourse)) ?_
    rcases iteE hl2 with ⟨hc3,hl2⟩ | ⟨hc3,hl2⟩
    ·obtain ⟨y4,hy4,hl2⟩:=bindE hl2
     obtain ⟨y5,hy5,hl2⟩:=bindE hl2
     refine W 6 [.t,.r [{},{},{},{ k:=1,x:=E_GCourse y4 },{},{},{},{},{ k:=1,x:=E_GCourse y5 }]] (cjC hc3 (cjC ((ixE hy4).1) (cjC (mapGet E_GCourse (ixE hy4).2) (cjC ((ixE hy5).1) (cj1 (mapGet E_GCourse (ixE hy5).2)))))) ?_
     rcases iteE hl2 with ⟨hc6,hl2⟩ | ⟨hc6,hl2⟩
     ·replace hl2:=Option.some.inj hl2; subst hl2
      have hr:=rl2 _ rfl
      subst hr
      replace h:=elimR h
      replace h:=Option.some.inj h; subst h
      exact wR 8 [.t] (cjC hc6 (cj1 (Kl2.o _ rfl)))
     ·replace hl2:=Option.some.inj hl2; subst hl2
      exact wX 5 [.f] (cj1 hc6) (Kl2.n _ rfl)
    ·replace hl2:=Option.some.inj hl2; subst hl2
     have hr:=rl2 _ rfl
     subst hr
     exact wX 5 [.f] (cjC hc3 (cj1 (Kl2.o _ rfl))) (kl2 () rfl)
   ·rintro ⟨⟩ rfl
    replace h:=elimL h
    obtain ⟨ol3x,hll3x,h⟩:=bindE h
    refine W 3 [] cj0 ?_
    refine wJ (fun (_:Unit)=>(zipE [] [])) (fun (_:Unit)=>⟨[],2⟩) (fun j=>ol3x = .inl j) (fun kl3=>?_) ?_
    ·refine wL 1 [] cj0 hll3x 2 (fun (l3_6:Int)=>(zipE [2,3,6] [.mp 0 0 0,.mp 1 0 0,.i l3_6])) (fun (l3_6:Int)=>s_0) ?_
     rintro l3_6 out hl3 rl3 Kl3
     refine W 2 [.r [{},{},{},{ k:=1,n:=a0.steps.length }]] (cj1 (mapLen a0.steps AV.i)) ?_
     rcases iteE hl3 with ⟨hc7,hl3⟩ | ⟨hc7,hl3⟩
     ·obtain ⟨y8,hy8,hl3⟩:=bindE hl3
      obtain ⟨y9,hy9,hl3⟩:=bindE hl3
      refine W 6 [.t,.r [{},{},{},{ k:=1,x:=AV.i y8 },{},{},{},{},{ k:=1,x:=AV.i y9 }]] (cjC hc7 (cjC ((ixE hy8).1) (cjC (mapGet AV.i (ixE hy8).2) (cjC ((ixE hy9).1) (cj1 (mapGet AV.i (ixE hy9).2)))))) ?_
      rcases iteE hl3 with ⟨hc10,hl3⟩ | ⟨hc10,hl3⟩
      ·replace hl3:=Option.some.inj hl3; subst hl3
       have hr:=rl3 _ rfl
       subst hr
       replace h:=elimR h
       replace h:=Option.some.inj h; subst h
       exact wR 8 [.t] (cjC hc10 (cj1 (Kl3.o _ rfl)))
      ·replace hl3:=Option.some.inj hl3; subst hl3
       exact wX 5 [.f] (cj1 hc10) (Kl3.n _ rfl)
     ·replace hl3:=Option.some.inj hl3; subst hl3
      have hr:=rl3 _ rfl
      subst hr
      exact wX 5 [.f] (cjC hc7 (cj1 (Kl3.o _ rfl))) (kl3 () rfl)
    ·rintro ⟨⟩ rfl
     replace h:=elimL h
     replace h:=Option.some.inj h; subst h
     exact wR 3 [] cj0
def f138 (a0:GEvent) (a1:GEvent):Option Bool:=((bif (!(a0.bar == a1.bar)) then (some true) else (bif (!(eq_GSign a0.sign a1.sign)) then (some true) else (bif (!(a0.tie == a1.tie)) then (some true) else (some (decide ((a0.stops.length:Int) ≠ (a1.stops.length:Int))))))):Option Bool).bind fun (j1_33:Bool)=>bif j1_33 then (some false) else ((loopN (σ:=Int) (τ:=(Unit ⊕ Bool)) (fun (l2_5:Int)=>bif (decide (l2_5 < (a0.stops.length:Int))) then ((ix a0.stops l2_5).bind fun y6=>(ix a1.stops l2_5).bind fun y7=>bif (!(eq_GStop y6 y7)) then (some (.inr (.inr false))) else (some (.inl (wr (l2_5 + 1))))) else (some (.inr (.inl ())))) FUEL 0).bind (Sum.elim (fun (_:Unit)=>some true) some))
theorem f138_ok (a0:GEvent) (a1:GEvent) (r:Bool) (h:f138 a0 a1 = some r):APure Tryz.prog 138 [E_GEvent a0,E_GEvent a1] (.bool r):=by
 refine apure (clK (cl_GEvent a0) (clK (cl_GEvent a1) clZ)) rfl ?_
 refine wf 52 [.tmp 4] (c138 0) ?_
 unfold f138 at h
 obtain ⟨j1_33,hj1,h⟩:=bindE h
 refine W 2 [] cj0 ?_
 let s_0:St:=⟨[(1,.cells 6 [E_GEvent a1]),(0,.cells 6 [E_GEvent a0])],2⟩
 refine wG (fun (j1_33:Bool)=>(zipE [2,3,33] [.mp 0 0 0,.mp 1 0 0,.bool j1_33])) (fun (j1_33:Bool)=>s_0) (fun j=>j1_33 = j) (fun kj1=>?_) ?_
 ·rcases iteE hj1 with ⟨hc1,hj1⟩ | ⟨hc1,hj1⟩
  ·replace hj1:=Option.some.inj hj1; subst hj1
   exact wX 1 [.r [{},{},{},{},{},{},{ g:=false },{ g:=false },{ g:=false },{ g:=false },{ g:=false },{ k:=1,b:=true },{},{ g:=false },{ g:=false },{ g:=false },{ g:=false },{ g:=false },{},{},{ g:=false },{ g:=false },{ g:=false },{ g:=false },{ g:=false },{ g:=false },{ g:=false }]] (cjC hc1 (cjC hc1 (cjC hc1 (cjC hc1 (cjC hc1 (cjC hc1 (cjC (Eq.refl true) (cjC (Eq.refl true) (cjC (Eq.refl true) (cjC (Eq.refl true) (cjC (Eq.refl true) (cjC (Eq.refl true) (cjC (Eq.refl true) (cjC (Eq.refl true) (cjC (Eq.refl true) (cjC (Eq.refl true) (cjC (Eq.refl true) (cj1 (Eq.refl true))))))))))))))))))) (kj1 true rfl)
  ·rcases iteE hj1 with ⟨hc2,hj1⟩ | ⟨hc2,hj1⟩
   ·replace hj1:=Option.some.inj hj1; subst hj1
    exact wX 1 [.r [{},{},{},{},{},{},{},{},{},{},{},{ k:=1,b:=false },{},{ g:=false },{ g:=false },{ g:=false },{ g:=false },{ g:=false },{ k:=1,b:=true },{},{ g:=false },{ g:=false },{ g:=false },{ g:=false },{ g:=false },{ g:=false },{ g:=false }]] (cjC hc1 (cjC hc1 (cjC hc1 (cjC hc1 (cjC hc1 (cjC hc1 (cjC hc2 (cjC hc2 (cjC hc2 (cjC hc2 (cjC hc2 (cjC hc2 (cjC (Eq.refl true) (cjC (Eq.refl true) (cjC (Eq.refl true) (cjC (Eq.refl true) (cjC (Eq.refl true) (cjC (Eq.refl true) (cj1 (Eq.refl true)))))))))))))))))))) (kj1 true rfl)
   ·rcases iteE hj1 with ⟨hc3,hj1⟩ | ⟨hc3,hj1⟩
    ·replace hj1:=Option.some.inj hj1; subst hj1
     exact wX 1 [.r [{},{},{},{},{},{},{},{},{},{},{},{ k:=1,b:=false },{},{},{},{},{},{},{ k:=1,b:=false },{},{ g:=false },{ g:=false },{ g:=false },{ g:=false },{ g:=false },{ g:=false },{ g:=false },{ k:=1,b:=true }]] (cjC hc1 (cjC hc1 (cjC hc1 (cjC hc1 (cjC hc1 (cjC hc1 (cjC hc2 (cjC hc2 (cjC hc2 (cjC hc2 (cjC hc2 (cjC hc2 (cjC hc3 (cjC hc3 (cjC hc3 (cjC hc3 (cjC hc3 (cjC hc3 (cjC hc3 (cj1 hc3)))))))))))))))))))) (kj1 true rfl)
    ·replace hj1:=Option.some.inj hj1; subst hj1
     exact wX 1 [.r [{},{},{},{},{},{},{},{},{},{},{},{ k:=1,b:=false },{},{},{},{},{},{},{ k:=1,b:=false },{},{},{},{ k:=1,n:=a0.stops.length },{},{},{ k:=1,n:=a1.stops.length },{},{ k:=1,b:=false }]] (cjC hc1 (cjC hc1 (cjC hc1 (cjC hc1 (cjC hc1 (cjC hc1 (cjC hc2 (cjC hc2 (cjC hc2 (cjC hc2 (cjC hc2 (cjC hc2 (cjC hc3 (cjC hc3 (cjC hc3 (cjC (mapLen a0.stops E_GStop) (cjC hc3 (cjC hc3 (cjC hc3 (cjC (mapLen a1.stops E_GStop) (cjC hc3 (cj1 hc3)))))))))))))))))))))) (kj1 (decide ((a0.stops.length:Int) ≠ (a1.stops.length:Int))) rfl)
 ·rintro _ rfl
  rcases iteE h with ⟨hc4,h⟩ | ⟨hc4,h⟩
  ·replace h:=Option.some.inj h; subst h
   exact wR 4 [.t] (cj1 hc4)
  ·obtain ⟨ol2x,hll2x,h⟩:=bindE h
   refine W 5 [.f] (cj1 hc4) ?_
   refine wJ (fun (_:Unit)=>(zipE [] [])) (fun (_:Unit)=>⟨[],2⟩) (fun j=>ol2x = .inl j) (fun kl2=>?_) ?_
   ·refine wL 1 [] cj0 hll2x 2 (fun (l2_5:Int)=>(zipE [2,3,5] [.mp 0 0 0,.mp 1 0 0,.i l2_5])) (fun (l2_5:Int)=>s_0) ?_
    rintro l2_5 out hl2 rl2 Kl2
    refine W 2 [.r [{},{},{},{ k:=1,n:=a0.stops.length }]] (cj1 (mapLen a0.stops E_GStop)) ?_
    rcases iteE hl2 with ⟨hc5,hl2⟩ | ⟨hc5,hl2⟩
    ·obtain ⟨y6,hy6,hl2⟩:=bindE hl2
     obtain ⟨y7,hy7,hl2⟩:=bindE hl2
     refine W 6 [.t,.r [{},{},{},{ k:=1,x:=E_GStop y6 },{},{},{},{},{ k:=1,x:=E_GStop y7 }]] (cjC hc5 (cjC ((ixE hy6).1) (cjC (mapGet E_GStop (ixE hy6).2) (cjC ((ixE hy7).1) (cj1 (mapGet E_GStop (ixE hy7).2)))))) ?_
     rcases iteE hl2 with ⟨hc8,hl2⟩ | ⟨hc8,hl2⟩
     ·replace hl2:=Option.some.inj hl2; subst hl2
      have hr:=rl2 _ rfl
      subst hr
      replace h:=elimR h
      replace h:=Option.some.inj h; subst h
      exact wR 8 [.t] (cjC hc8 (cj1 (Kl2.o _ rfl)))
     ·replace hl2:=Option.some.inj hl2; subst hl2
      exact wX 5 [.f] (cj1 hc8) (Kl2.n _ rfl)
    ·replace hl2:=Option.some.inj hl2; subst hl2
     have hr:=rl2 _ rfl
     subst hr
     exact wX 5 [.f] (cjC hc5 (cj1 (Kl2.o _ rfl))) (kl2 () rfl)
   ·rintro ⟨⟩ rfl
    replace h:=elimL h
    replace h:=Option.some.inj h; subst h
    exact wR 3 [] cj0
def f85 (a0:GPiece) (a1:GPiece):Option Bool:=(((f137 a0.instrument a1.instrument).bind fun r1=>bif (!r1) then (some true) else (some (decide ((a0.events.length:Int) ≠ (a1.events.length:Int))))):Option Bool).bind fun (j1_20:Bool)=>bif j1_20 then (some false) else ((loopN (σ:=Int) (τ:=(Unit ⊕ Bool)) (fun (l2_5:Int)=>bif (decide (l2_5 < (a0.events.length:Int))) then ((ix a0.events l2_5).bind fun y5=>(ix a1.events l2_5).bind fun y6=>(f138 y5 y6).bind fun r7=>bif (!r7) then (some (.inr (.inr false))) else (some (.inl (wr (l2_5 + 1))))) else (some (.inr (.inl ())))) FUEL 0).bind (Sum.elim (fun (_:Unit)=>some true) some))
theorem f85_ok (a0:GPiece) (a1:GPiece) (r:Bool) (h:f85 a0 a1 = some r):APure Tryz.prog 85 [E_GPiece a0,E_GPiece a1] (.bool r):=by
 refine apure (clK (cl_GPiece a0) (clK (cl_GPiece a1) clZ)) rfl ?_
 refine wf 40 [.tmp 4] (c85 0) ?_
 unfold f85 at h
 obtain ⟨j1_20,hj1,h⟩:=bindE h
 refine W 2 [] cj0 ?_
 let s_0:St:=⟨[(1,.cells 3 [E_GPiece a1]),(0,.cells 3 [E_GPiece a0])],2⟩
 refine wG (fun (j1_20:Bool)=>(zipE [2,3,20] [.mp 0 0 0,.mp 1 0 0,.bool j1_20])) (fun (j1_20:Bool)=>s_0) (fun j=>j1_20 = j) (fun kj1=>?_) ?_
 ·obtain ⟨r1,hr1,hj1⟩:=bindE hj1
  rcases iteE hj1 with ⟨hc2,hj1⟩ | ⟨hc2,hj1⟩
  ·replace hj1:=Option.some.inj hj1; subst hj1
   exact wX 1 [.r [{},{},{},{},{ k:=7,x:=.bool r1 },{},{},{ g:=false },{ g:=false },{ g:=false },{ g:=false },{ g:=false },{ g:=false },{ g:=false },{ k:=1,b:=true }]] (cjC (f137_ok a0.instrument a1.instrument _ hr1) (cjC hc2 (cjC hc2 (cjC hc2 (cjC hc2 (cjC hc2 (cjC hc2 (cjC hc2 (cj1 hc2))))))))) (kj1 true rfl)
  ·replace hj1:=Option.some.inj hj1; subst hj1
   exact wX 1 [.r [{},{},{},{},{ k:=7,x:=.bool r1 },{},{},{},{},{ k:=1,n:=a0.events.length },{},{},{ k:=1,n:=a1.events.length },{},{ k:=1,b:=false }]] (cjC (f137_ok a0.instrument a1.instrument _ hr1) (cjC hc2 (cjC hc2 (cjC hc2 (cjC (mapLen a0.events E_GEvent) (cjC hc2 (cjC hc2 (cjC hc2 (cjC (mapLen a1.events E_GEvent) (cjC hc2 (cj1 hc2))))))))))) (kj1 (decide ((a0.events.length:Int) ≠ (a1.events.length:Int))) rfl)
 ·rintro _ rfl
  rcases iteE h with ⟨hc3,h⟩ | ⟨hc3,h⟩
  ·replace h:=Option.some.inj h; subst h
   exact wR 4 [.t] (cj1 hc3)
  ·obtain ⟨ol2x,hll2x,h⟩:=bindE h
   refine W 5 [.f] (cj1 hc3) ?_
   refine wJ (fun (_:Unit)=>(zipE [] [])) (fun (_:Unit)=>⟨[],2⟩) (fun j=>ol2x = .inl j) (fun kl2=>?_) ?_
   ·refine wL 1 [] cj0 hll2x 2 (fun (l2_5:Int)=>(zipE [2,3,5] [.mp 0 0 0,.mp 1 0 0,.i l2_5])) (fun (l2_5:Int)=>s_0) ?_
    rintro l2_5 out hl2 rl2 Kl2
    refine W 2 [.r [{},{},{},{ k:=1,n:=a0.events.length }]] (cj1 (mapLen a0.events E_GEvent)) ?_
    rcases iteE hl2 with ⟨hc4,hl2⟩ | ⟨hc4,hl2⟩
    ·obtain ⟨y5,hy5,hl2⟩:=bindE hl2
     obtain ⟨y6,hy6,hl2⟩:=bindE hl2
     obtain ⟨r7,hr7,hl2⟩:=bindE hl2
     refine W 6 [.t,.r [{},{},{},{ k:=1,x:=E_GEvent y5 },{},{},{},{},{ k:=1,x:=E_GEvent y6 },{},{ k:=7,x:=.bool r7 }]] (cjC hc4 (cjC ((ixE hy5).1) (cjC (mapGet E_GEvent (ixE hy5).2) (cjC ((ixE hy6).1) (cjC (mapGet E_GEvent (ixE hy6).2) (cj1 (f138_ok y5 y6 _ hr7))))))) ?_
     rcases iteE hl2 with ⟨hc8,hl2⟩ | ⟨hc8,hl2⟩
     ·replace hl2:=Option.some.inj hl2; subst hl2
      have hr:=rl2 _ rfl
      subst hr
      replace h:=elimR h
      replace h:=Option.some.inj h; subst h
      exact wR 8 [.t] (cjC hc8 (cj1 (Kl2.o _ rfl)))
     ·replace hl2:=Option.some.inj hl2; subst hl2
      exact wX 5 [.f] (cj1 hc8) (Kl2.n _ rfl)
    ·replace hl2:=Option.some.inj hl2; subst hl2
     have hr:=rl2 _ rfl
     subst hr
     exact wX 5 [.f] (cjC hc4 (cj1 (Kl2.o _ rfl))) (kl2 () rfl)
   ·rintro ⟨⟩ rfl
    replace h:=elimL h
    replace h:=Option.some.inj h; subst h
    exact wR 3 [] cj0
def f34 (a0:GConsort) (a1:GConsort):Option Bool:=bif (decide ((a0.pieces.length:Int) ≠ (a1.pieces.length:Int))) then (some false) else ((loopN (σ:=Int) (τ:=(Unit ⊕ Bool)) (fun (l1_5:Int)=>bif (decide (l1_5 < (a0.pieces.length:Int))) then ((ix a0.pieces l1_5).bind fun y3=>(ix a1.pieces l1_5).bind fun y4=>(f85 y3 y4).bind fun r5=>bif (!r5) then (some (.inr (.inr false))) else (some (.inl (wr (l1_5 + 1))))) else (some (.inr (.inl ())))) FUEL 0).bind (Sum.elim (fun (_:Unit)=>some true) some))
theorem f34_ok (a0:GConsort) (a1:GConsort) (r:Bool) (h:f34 a0 a1 = some r):APure Tryz.prog 34 [E_GConsort a0,E_GConsort a1] (.bool r):=by
 refine apure (clK (cl_GConsort a0) (clK (cl_GConsort a1) clZ)) rfl ?_
 refine wf 32 [.tmp 4] (c34 0) ?_
 unfold f34 at h
 refine W 3 [.n,.r [{},{},{ k:=1,n:=a0.pieces.length },{},{},{ k:=1,n:=a1.pieces.length }]] (cjC (mapLen a0.pieces E_GPiece) (cj1 (mapLen a1.pieces E_GPiece))) ?_
 rcases iteE h with ⟨hc1,h⟩ | ⟨hc1,h⟩
 ·replace h:=Option.some.inj h; subst h
  exact wR 4 [.t] (cj1 hc1)
 ·obtain ⟨ol1x,hll1x,h⟩:=bindE h
  refine W 5 [.f] (cj1 hc1) ?_
  refine wJ (fun (_:Unit)=>(zipE [] [])) (fun (_:Unit)=>⟨[],2⟩) (fun j=>ol1x = .inl j) (fun kl1=>?_) ?_
  ·refine wL 1 [] cj0 hll1x 2 (fun (l1_5:Int)=>(zipE [2,3,5] [.mp 0 0 0,.mp 1 0 0,.i l1_5])) (fun (l1_5:Int)=>⟨[(1,.cells 1 [E_GConsort a1]),(0,.cells 1 [E_GConsort a0])],2⟩) ?_
   rintro l1_5 out hl1 rl1 Kl1
   refine W 2 [.r [{},{},{},{ k:=1,n:=a0.pieces.length }]] (cj1 (mapLen a0.pieces E_GPiece)) ?_
   rcases iteE hl1 with ⟨hc2,hl1⟩ | ⟨hc2,hl1⟩
   ·obtain ⟨y3,hy3,hl1⟩:=bindE hl1
    obtain ⟨y4,hy4,hl1⟩:=bindE hl1
    obtain ⟨r5,hr5,hl1⟩:=bindE hl1
    refine W 6 [.t,.r [{},{},{},{ k:=1,x:=E_GPiece y3 },{},{},{},{},{ k:=1,x:=E_GPiece y4 },{},{ k:=7,x:=.bool r5 }]] (cjC hc2 (cjC ((ixE hy3).1) (cjC (mapGet E_GPiece (ixE hy3).2) (cjC ((ixE hy4).1) (cjC (mapGet E_GPiece (ixE hy4).2) (cj1 (f85_ok y3 y4 _ hr5))))))) ?_
    rcases iteE hl1 with ⟨hc6,hl1⟩ | ⟨hc6,hl1⟩
    ·replace hl1:=Option.some.inj hl1; subst hl1
     have hr:=rl1 _ rfl
     subst hr
     replace h:=elimR h
     replace h:=Option.some.inj h; subst h
     exact wR 8 [.t] (cjC hc6 (cj1 (Kl1.o _ rfl)))
    ·replace hl1:=Option.some.inj hl1; subst hl1
     exact wX 5 [.f] (cj1 hc6) (Kl1.n _ rfl)
   ·replace hl1:=Option.some.inj hl1; subst hl1
    have hr:=rl1 _ rfl
    subst hr
    exact wX 5 [.f] (cjC hc2 (cj1 (Kl1.o _ rfl))) (kl1 () rfl)
  ·rintro ⟨⟩ rfl
   replace h:=elimL h
   replace h:=Option.some.inj h; subst h
   exact wR 3 [] cj0
def f4 (a0:List GPiece):Option Bool:=(f9 a0).bind fun r1=>bif r1 then ((f10).bind fun r3=>some r3) else ((f30 (⟨a0⟩:GConsort)).bind fun r4=>(f31 (⟨a0⟩:GConsort)).bind fun r5=>bif (decide (r4 ≠ r5)) then (some false) else ((f32 a0).bind fun r7=>(f33 a0).bind fun r8=>((bif (decide (r7.2 = r8.2)) then ((f34 r7.1 r8.1).bind fun r10=>bif r10 then ((f10).bind fun r12=>some r12) else (some false)) else (some false)):Option Bool).bind fun (j1_2:Bool)=>some j1_2))
end Go.Proofs.YtodkhgjhodmeoaaGreat
