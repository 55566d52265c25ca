/-
 Functions of the program as Lean functions,and the walks. Written by a program of ours.
-/
import Derived.Test.YtodkhgjhodmeoaaGreatV4a
import Derived.Test.YtodkhgjhodmeoaaGreatV4b
namespace Go.Proofs.YtodkhgjhodmeoaaGreat
open Go Go.Am
set_option maxRecDepth 100000
set_option linter.all false
noncomputable def c137 (k:Nat):Code:=nthC (subs (Tryz.f137.body.getD .skip)) k
noncomputable def c138 (k:Nat):Code:=nthC (subs (Tryz.f138.body.getD .skip)) k
noncomputable def c85 (k:Nat):Code:=nthC (subs (Tryz.f85.body.getD .skip)) k
noncomputable def c34 (k:Nat):Code:=nthC (subs (Tryz.f34.body.getD .skip)) k
noncomputable def c4 (k:Nat):Code:=nthC (subs (Tryz.f4.body.getD .skip)) k
def f137 (a0:GInstrument) (a1:GInstrument):Option Bool:=((bif (decide ((a0.courses.length:Int) ≠ (a1.courses.length:Int))) then (some true) else (some (decide ((a0.steps.length:Int) ≠ (a1.steps.length:Int))))):Option Bool).bind fun (j1_22:Bool)=>bif j1_22 then (some false) else ((loopN (σ:=Int) (τ:=(Unit ⊕ Bool)) (fun (l2_5:Int)=>bif (decide (l2_5 < (a0.courses.length:Int))) then ((ix a0.courses l2_5).bind fun y4=>(ix a1.courses l2_5).bind fun y5=>bif (!(eq_GCourse y4 y5)) then (some (.inr (.inr false))) else (some (.inl (wr (l2_5 + 1))))) else (some (.inr (.inl ())))) FUEL 0).bind (Sum.elim (fun (_:Unit)=>(loopN (σ:=Int) (τ:=(Unit ⊕ Bool)) (fun (l3_6:Int)=>bif (decide (l3_6 < (a0.steps.length:Int))) then ((ix a0.steps l3_6).bind fun y8=>(ix a1.steps l3_6).bind fun y9=>bif (decide (y8 ≠ y9)) then (some (.inr (.inr false))) else (some (.inl (wr (l3_6 + 1))))) else (some (.inr (.inl ())))) FUEL 0).bind (Sum.elim (fun (_:Unit)=>some true) some)) some))
theorem f137_ok (a0:GInstrument) (a1:GInstrument) (r:Bool) (h:f137 a0 a1 = some r):APure Tryz.prog 137 [E_GInstrument a0,E_GInstrument a1] (.bool r):=by
 refine apure (clK (cl_GInstrument a0) (clK (cl_GInstrument a1) clZ)) rfl ?_
 refine wf 59 [.tmp 4] (c137 0) ?_
 unfold f137 at h
 obtain ⟨j1_22,hj1,h⟩:=bindE h
 refine W 2 [] cj0 ?_
 refine wG (fun (j1_22:Bool)=>(zipE [2,3,22] [.mp 0 0 0,.mp 1 0 0,.bool j1_22])) (fun (j1_22:Bool)=>⟨[(1,.cells 2 [E_GInstrument a1]),(0,.cells 2 [E_GInstrument a0])],2⟩) (fun j=>j1_22 = j) (fun kj1=>?_) ?_
 ·rcases iteE hj1 with ⟨hc1,hj1⟩ | ⟨hc1,hj1⟩
  ·replace hj1:=Option.some.inj hj1; subst hj1
   exact wX 1 [.r [{},{},{ k:=1,n:=a0.courses.length },{},{},{ k:=1,n:=a1.courses.length },{},{},{ g:=false },{ g:=false },{ g:=false },{ g:=false },{ g:=false },{ g:=false },{ g:=false },{ k:=1,b:=true }]] (cjC (mapLen a0.courses E_GCourse) (cjC (mapLen a1.courses E_GCourse) (cjC hc1 (cjC hc1 (cjC hc1 (cjC hc1 (cjC hc1 (cjC hc1 (cjC hc1 (cj1 hc1)))))))))) (kj1 true rfl)
  ·replace hj1:=Option.some.inj hj1; subst hj1
   exact wX 1 [.r [{},{},{ k:=1,n:=a0.courses.length },{},{},{ k:=1,n:=a1.courses.length },{},{},{},{},{ k:=1,n:=a0.steps.length },{},{},{ k:=1,n:=a1.steps.length },{},{ k:=1,b:=false }]] (cjC (mapLen a0.courses E_GCourse) (cjC (mapLen a1.courses E_GCourse) (cjC hc1 (cjC hc1 (cjC hc1 (cjC (mapLen a0.steps AV.i) (cjC hc1 (cjC hc1 (cjC hc1 (cjC (mapLen a1.steps AV.i) (cjC hc1 (cj1 hc1)))))))))))) (kj1 (decide ((a0.steps.length:Int) ≠ (a1.steps.length:Int))) rfl)
 ·rintro _ rfl
  rcases iteE h with ⟨hc2,h⟩ | ⟨hc2,h⟩
  ·replace h:=Option.some.inj h; subst h
   exact wR 4 [.t] (cj1 hc2)
  ·obtain ⟨ol2x,hll2x,h⟩:=bindE h
   refine W 5 [.f] (cj1 hc2) ?_
   refine wJ (fun (_:Unit)=>(zipE [2,3] [.mp 0 0 0,.mp 1 0 0])) (fun (_:Unit)=>⟨[(1,.cells 2 [E_GInstrument a1]),(0,.cells 2 [E_GInstrument a0])],2⟩) (fun j=>ol2x = .inl j) (fun kl2=>?_) ?_
   ·refine wL 1 [] cj0 hll2x 2 (fun (l2_5:Int)=>(zipE [2,3,5] [.mp 0 0 0,.mp 1 0 0,.i l2_5])) (fun (l2_5:Int)=>⟨[(1,.cells 2 [E_GInstrument a1]),(0,.cells 2 [E_GInstrument a0])],2⟩) ?_
    rintro l2_5 out hl2 rl2 Kl2
    refine W 2 [.r [{},{},{},{ k:=1,n:=a0.courses.length }]] (cj1 (mapLen a0.courses E_GCourse)) ?_
    rcases iteE hl2 with ⟨hc3,hl2⟩ | ⟨hc3,hl2⟩
    ·obtain ⟨y4,hy4,hl2⟩:=bindE hl2
     obtain ⟨y5,hy5,hl2⟩:=bindE hl2
     refine W 6 [.t,.r [{},{},{},{ k:=1,x:=E_GCourse y4 },{},{},{},{},{ k:=1,x:=E_GCourse y5 }]] (cjC hc3 (cjC ((ixE hy4).1) (cjC (mapGet E_GCourse (ixE hy4).2) (cjC ((ixE hy5).1) (cj1 (mapGet E_GCourse (ixE hy5).2)))))) ?_
     rcases iteE hl2 with ⟨hc6,hl2⟩ | ⟨hc6,hl2⟩
     ·replace hl2:=Option.some.inj hl2; subst hl2
      have hr:=rl2 _ rfl
      subst hr
      replace h:=elimR h
      replace h:=Option.some.inj h; subst h
      exact wR 8 [.t] (cjC hc6 (cj1 (Kl2.o _ rfl)))
     ·replace hl2:=Option.some.inj hl2; subst hl2
      exact wX 5 [.f] (cj1 hc6) (Kl2.n _ rfl)
    ·replace hl2:=Option.some.inj hl2; subst hl2
     have hr:=rl2 _ rfl
     subst hr
     exact wX 5 [.f] (cjC hc3 (cj1 (Kl2.o _ rfl))) (kl2 () rfl)
   ·rintro ⟨⟩ rfl
    replace h:=elimL h
    obtain ⟨ol3x,hll3x,h⟩:=bindE h
    refine W 3 [] cj0 ?_
    refine wJ (fun (_:Unit)=>(zipE [] [])) (fun (_:Unit)=>⟨[],2⟩) (fun j=>ol3x = .inl j) (fun kl3=>?_) ?_
    ·refine wL 1 [] cj0 hll3x 2 (fun (l3_6:Int)=>(zipE [2,3,6] [.mp 0 0 0,.mp 1 0 0,.i l3_6])) (fun (l3_6:Int)=>⟨[(1,.cells 2 [E_GInstrument a1]),(0,.cells 2 [E_GInstrument a0])],2⟩) ?_
     rintro l3_6 out hl3 rl3 Kl3
     refine W 2 [.r [{},{},{},{ k:=1,n:=a0.steps.length }]] (cj1 (mapLen a0.steps AV.i)) ?_
     rcases iteE hl3 with ⟨hc7,hl3⟩ | ⟨hc7,hl3⟩
     ·obtain ⟨y8,hy8,hl3⟩:=bindE hl3
      obtain ⟨y9,hy9,hl3⟩:=bindE hl3
      refine W 6 [.t,.r [{},{},{},{ k:=1,x:=AV.i y8 },{},{},{},{},{ k:=1,x:=AV.i y9 }]] (cjC hc7 (cjC ((ixE hy8).1) (cjC (mapGet AV.i (ixE hy8).2) (cjC ((ixE hy9).1) (cj1 (mapGet AV.i (ixE hy9).2)))))) ?_
      rcases iteE hl3 with ⟨hc10,hl3⟩ | ⟨hc10,hl3⟩
      ·replace hl3:=Option.some.inj hl3; subst hl3
       have hr:=rl3 _ rfl
       subst hr
       replace h:=elimR h
       replace h:=Option.some.inj h; subst h
       exact wR 8 [.t] (cjC hc10 (cj1 (Kl3.o _ rfl)))
      ·replace hl3:=Option.some.inj hl3; subst hl3
       exact wX 5 [.f] (cj1 hc10) (Kl3.n _ rfl)
     ·replace hl3:=Option.some.inj hl3; subst hl3
      have hr:=rl3 _ rfl
      subst hr
      exact wX 5 [.f] (cjC hc7 (cj1 (Kl3.o _ rfl))) (kl3 () rfl)
    ·rintro ⟨⟩ rfl
     replace h:=elimL h
     replace h:=Option.some.inj h; subst h
     exact wR 3 [] cj0
def f138 (a0:GEvent) (a1:GEvent):Option Bool:=((bif (!(a0.bar == a1.bar)) then (some true) else (bif (!(eq_GSign a0.sign a1.sign)) then (some true) else (bif (!(a0.tie == a1.tie)) then (some true) else (some (decide ((a0.stops.length:Int) ≠ (a1.stops.length:Int))))))):Option Bool).bind fun (j1_33:Bool)=>bif j1_33 then (some false) else ((loopN (σ:=Int) (τ:=(Unit ⊕ Bool)) (fun (l2_5:Int)=>bif (decide (l2_5 < (a0.stops.length:Int))) then ((ix a0.stops l2_5).bind fun y6=>(ix a1.stops l2_5).bind fun y7=>bif (!(eq_GStop y6 y7)) then (some (.inr (.inr false))) else (some (.inl (wr (l2_5 + 1))))) else (some (.inr (.inl ())))) FUEL 0).bind (Sum.elim (fun (_:Unit)=>some true) some))
theorem f138_ok (a0:GEvent) (a1:GEvent) (r:Bool) (h:f138 a0 a1 = some r):APure Tryz.prog 138 [E_GEvent a0,E_GEvent a1] (.bool r):=by
 refine apure (clK (cl_GEvent a0) (clK (cl_GEvent a1) clZ)) rfl ?_
 refine wf 52 [.tmp 4] (c138 0) ?_
 unfold f138 at h
 obtain ⟨j1_33,hj1,h⟩:=bindE h
 refine W 2 [] cj0 ?_
 refine wG (fun (j1_33:Bool)=>(zipE [2,3,33] [.mp 0 0 0,.mp 1 0 0,.bool j1_33])) (fun (j1_33:Bool)=>⟨[(1,.cells 6 [E_GEvent a1]),(0,.cells 6 [E_GEvent a0])],2⟩) (fun j=>j1_33 = j) (fun kj1=>?_) ?_
 ·rcases iteE hj1 with ⟨hc1,hj1⟩ | ⟨hc1,hj1⟩
  ·replace hj1:=Option.some.inj hj1; subst hj1
   exact wX 1 [.r [{},{},{},{},{},{},{ g:=false },{ g:=false },{ g:=false },{ g:=false },{ g:=false },{ k:=1,b:=true },{},{ g:=false },{ g:=false },{ g:=false },{ g:=false },{ g:=false },{},{},{ g:=false },{ g:=false },{ g:=false },{ g:=false },{ g:=false },{ g:=false },{ g:=false }]] (cjC hc1 (cjC hc1 (cjC hc1 (cjC hc1 (cjC hc1 (cjC hc1 (cjC (Eq.refl true) (cjC (Eq.refl true) (cjC (Eq.refl true) (cjC (Eq.refl true) (cjC (Eq.refl true) (cjC (Eq.refl true) (cjC (Eq.refl true) (cjC (Eq.refl true) (cjC (Eq.refl true) (cjC (Eq.refl true) (cjC (Eq.refl true) (cj1 (Eq.refl true))))))))))))))))))) (kj1 true rfl)
  ·rcases iteE hj1 with ⟨hc2,hj1⟩ | ⟨hc2,hj1⟩
   ·replace hj1:=Option.some.inj hj1; subst hj1
    exact wX 1 [.r [{},{},{},{},{},{},{},{},{},{},{},{ k:=1,b:=false },{},{ g:=false },{ g:=false },{ g:=false },{ g:=false },{ g:=false },{ k:=1,b:=true },{},{ g:=false },{ g:=false },{ g:=false },{ g:=false },{ g:=false },{ g:=false },{ g:=false }]] (cjC hc1 (cjC hc1 (cjC hc1 (cjC hc1 (cjC hc1 (cjC hc1 (cjC hc2 (cjC hc2 (cjC hc2 (cjC hc2 (cjC hc2 (cjC hc2 (cjC (Eq.refl true) (cjC (Eq.refl true) (cjC (Eq.refl true) (cjC (Eq.refl true) (cjC (Eq.refl true) (cjC (Eq.refl true) (cj1 (Eq.refl true)))))))))))))))))))) (kj1 true rfl)
   ·rcases iteE hj1 with ⟨hc3,hj1⟩ | ⟨hc3,hj1⟩
    ·replace hj1:=Option.some.inj hj1; subst hj1
     exact wX 1 [.r [{},{},{},{},{},{},{},{},{},{},{},{ k:=1,b:=false },{},{},{},{},{},{},{ k:=1,b:=false },{},{ g:=false },{ g:=false },{ g:=false },{ g:=false },{ g:=false },{ g:=false },{ g:=false },{ k:=1,b:=true }]] (cjC hc1 (cjC hc1 (cjC hc1 (cjC hc1 (cjC hc1 (cjC hc1 (cjC hc2 (cjC hc2 (cjC hc2 (cjC hc2 (cjC hc2 (cjC hc2 (cjC hc3 (cjC hc3 (cjC hc3 (cjC hc3 (cjC hc3 (cjC hc3 (cjC hc3 (cj1 hc3)))))))))))))))))))) (kj1 true rfl)
    ·replace hj1:=Option.some.inj hj1; subst hj1
     exact wX 1 [.r [{},{},{},{},{},{},{},{},{},{},{},{ k:=1,b:=false },{},{},{},{},{},{},{ k:=1,b:=false },{},{},{},{ k:=1,n:=a0.stops.length },{},{},{ k:=1,n:=a1.stops.length },{},{ k:=1,b:=false }]] (cjC hc1 (cjC hc1 (cjC hc1 (cjC hc1 (cjC hc1 (cjC hc1 (cjC hc2 (cjC hc2 (cjC hc2 (cjC hc2 (cjC hc2 (cjC hc2 (cjC hc3 (cjC hc3 (cjC hc3 (cjC (mapLen a0.stops E_GStop) (cjC hc3 (cjC hc3 (cjC hc3 (cjC (mapLen a1.stops E_GStop) (cjC hc3 (cj1 hc3)))))))))))))))))))))) (kj1 (decide ((a0.stops.length:Int) ≠ (a1.stops.length:Int))) rfl)
 ·rintro _ rfl
  rcases iteE h with ⟨hc4,h⟩ | ⟨hc4,h⟩
  ·replace h:=Option.some.inj h; subst h
   exact wR 4 [.t] (cj1 hc4)
  ·obtain ⟨ol2x,hll2x,h⟩:=bindE h
   refine W 5 [.f] (cj1 hc4) ?_
   refine wJ (fun (_:Unit)=>(zipE [] [])) (fun (_:Unit)=>⟨[],2⟩) (fun j=>ol2x = .inl j) (fun kl2=>?_) ?_
   ·refine wL 1 [] cj0 hll2x 2 (fun (l2_5:Int)=>(zipE [2,3,5] [.mp 0 0 0,.mp 1 0 0,.i l2_5])) (fun (l2_5:Int)=>⟨[(1,.cells 6 [E_GEvent a1]),(0,.cells 6 [E_GEvent a0])],2⟩) ?_
    rintro l2_5 out hl2 rl2 Kl2
    refine W 2 [.r [{},{},{},{ k:=1,n:=a0.stops.length }]] (cj1 (mapLen a0.stops E_GStop)) ?_
    rcases iteE hl2 with ⟨hc5,hl2⟩ | ⟨hc5,hl2⟩
    ·obtain ⟨y6,hy6,hl2⟩:=bindE hl2
     obtain ⟨y7,hy7,hl2⟩:=bindE hl2
     refine W 6 [.t,.r [{},{},{},{ k:=1,x:=E_GStop y6 },{},{},{},{},{ k:=1,x:=E_GStop y7 }]] (cjC hc5 (cjC ((ixE hy6).1) (cjC (mapGet E_GStop (ixE hy6).2) (cjC ((ixE hy7).1) (cj1 (mapGet E_GStop (ixE hy7).2)))))) ?_
     rcases iteE hl2 with ⟨hc8,hl2⟩ | ⟨hc8,hl2⟩
     ·replace hl2:=Option.some.inj hl2; subst hl2
      have hr:=rl2 _ rfl
      subst hr
      replace h:=elimR h
      replace h:=Option.some.inj h; subst h
      exact wR 8 [.t] (cjC hc8 (cj1 (Kl2.o _ rfl)))
     ·replace hl2:=Option.some.inj hl2; subst hl2
      exact wX 5 [.f] (cj1 hc8) (Kl2.n _ rfl)
    ·replace hl2:=Option.some.inj hl2; subst hl2
     have hr:=rl2 _ rfl
     subst hr
     exact wX 5 [.f] (cjC hc5 (cj1 (Kl2.o _ rfl))) (kl2 () rfl)
   ·rintro ⟨⟩ rfl
    replace h:=elimL h
    replace h:=Option.some.inj h; subst h
    exact wR 3 [] cj0
def f85 (a0:GPiece) (a1:GPiece):Option Bool:=(((f137 a0.instrument a1.instrument).bind fun r1=>bif (!r1) then (some true) else (some (decide ((a0.events.length:Int) ≠ (a1.events.length:Int))))):Option Bool).bind fun (j1_20:Bool)=>bif j1_20 then (some false) else ((loopN (σ:=Int) (τ:=(Unit ⊕ Bool)) (fun (l2_5:Int)=>bif (decide (l2_5 < (a0.events.length:Int))) then ((ix a0.events l2_5).bind fun y5=>(ix a1.events l2_5).bind fun y6=>(f138 y5 y6).bind fun r7=>bif (!r7) then (some (.inr (.inr false))) else (some (.inl (wr (l2_5 + 1))))) else (some (.inr (.inl ())))) FUEL 0).bind (Sum.elim (fun (_:Unit)=>some true) some))
theorem f85_ok (a0:GPiece) (a1:GPiece) (r:Bool) (h:f85 a0 a1 = some r):APure Tryz.prog 85 [E_GPiece a0,E_GPiece a1] (.bool r):=by
 refine apure (clK (cl_GPiece a0) (clK (cl_GPiece a1) clZ)) rfl ?_
 refine wf 40 [.tmp 4] (c85 0) ?_
 unfold f85 at h
 obtain ⟨j1_20,hj1,h⟩:=bindE h
 refine W 2 [] cj0 ?_
 refine wG (fun (j1_20:Bool)=>(zipE [2,3,20] [.mp 0 0 0,.mp 1 0 0,.bool j1_20])) (fun (j1_20:Bool)=>⟨[(1,.cells 3 [E_GPiece a1]),(0,.cells 3 [E_GPiece a0])],2⟩) (fun j=>j1_20 = j) (fun kj1=>?_) ?_
 ·obtain ⟨r1,hr1,hj1⟩:=bindE hj1
  rcases iteE hj1 with ⟨hc2,hj1⟩ | ⟨hc2,hj1⟩
  ·replace hj1:=Option.some.inj hj1; subst hj1
   exact wX 1 [.r [{},{},{},{},{ k:=7,x:=.bool r1 },{},{},{ g:=false },{ g:=false },{ g:=false },{ g:=false },{ g:=false },{ g:=false },{ g:=false },{ k:=1,b:=true }]] (cjC (f137_ok a0.instrument a1.instrument _ hr1) (cjC hc2 (cjC hc2 (cjC hc2 (cjC hc2 (cjC hc2 (cjC hc2 (cjC hc2 (cj1 hc2))))))))) (kj1 true rfl)
  ·replace hj1:=Option.some.inj hj1; subst hj1
   exact wX 1 [.r [{},{},{},{},{ k:=7,x:=.bool r1 },{},{},{},{},{ k:=1,n:=a0.events.length },{},{},{ k:=1,n:=a1.events.length },{},{ k:=1,b:=false }]] (cjC (f137_ok a0.instrument a1.instrument _ hr1) (cjC hc2 (cjC hc2 (cjC hc2 (cjC (mapLen a0.events E_GEvent) (cjC hc2 (cjC hc2 (cjC hc2 (cjC (mapLen a1.events E_GEvent) (cjC hc2 (cj1 hc2))))))))))) (kj1 (decide ((a0.events.length:Int) ≠ (a1.events.length:Int))) rfl)
 ·rintro _ rfl
  rcases iteE h with ⟨hc3,h⟩ | ⟨hc3,h⟩
  ·replace h:=Option.some.inj h; subst h
   exact wR 4 [.t] (cj1 hc3)
  ·obtain ⟨ol2x,hll2x,h⟩:=bindE h
   refine W 5 [.f] (cj1 hc3) ?_
   refine wJ (fun (_:Unit)=>(zipE [] [])) (fun (_:Unit)=>⟨[],2⟩) (fun j=>ol2x = .inl j) (fun kl2=>?_) ?_
   ·refine wL 1 [] cj0 hll2x 2 (fun (l2_5:Int)=>(zipE [2,3,5] [.mp 0 0 0,.mp 1 0 0,.i l2_5])) (fun (l2_5:Int)=>⟨[(1,.cells 3 [E_GPiece a1]),(0,.cells 3 [E_GPiece a0])],2⟩) ?_
    rintro l2_5 out hl2 rl2 Kl2
    refine W 2 [.r [{},{},{},{ k:=1,n:=a0.events.length }]] (cj1 (mapLen a0.events E_GEvent)) ?_
    rcases iteE hl2 with ⟨hc4,hl2⟩ | ⟨hc4,hl2⟩
    ·obtain ⟨y5,hy5,hl2⟩:=bindE hl2
     obtain ⟨y6,hy6,hl2⟩:=bindE hl2
     obtain ⟨r7,hr7,hl2⟩:=bindE hl2
     refine W 6 [.t,.r [{},{},{},{ k:=1,x:=E_GEvent y5 },{},{},{},{},{ k:=1,x:=E_GEvent y6 },{},{ k:=7,x:=.bool r7 }]] (cjC hc4 (cjC ((ixE hy5).1) (cjC (mapGet E_GEvent (ixE hy5).2) (cjC ((ixE hy6).1) (cjC (mapGet E_GEvent (ixE hy6).2) (cj1 (f138_ok y5 y6 _ hr7))))))) ?_
     rcases iteE hl2 with ⟨hc8,hl2⟩ | ⟨hc8,hl2⟩
     ·replace hl2:=Option.some.inj hl2; subst hl2
      have hr:=rl2 _ rfl
      subst hr
      replace h:=elimR h
      replace h:=Option.some.inj h; subst h
      exact wR 8 [.t] (cjC hc8 (cj1 (Kl2.o _ rfl)))
     ·replace hl2:=Option.some.inj hl2; subst hl2
      exact wX 5 [.f] (cj1 hc8) (Kl2.n _ rfl)
    ·replace hl2:=Option.some.inj hl2; subst hl2
     have hr:=rl2 _ rfl
     subst hr
     exact wX 5 [.f] (cjC hc4 (cj1 (Kl2.o _ rfl))) (kl2 () rfl)
   ·rintro ⟨⟩ rfl
    replace h:=elimL h
    replace h:=Option.some.inj h; subst h
    exact wR 3 [] cj0
def f34 (a0:GConsort) (a1:GConsort):Option Bool:=bif (decide ((a0.pieces.length:Int) ≠ (a1.pieces.length:Int))) then (some false) else ((loopN (σ:=Int) (τ:=(Unit ⊕ Bool)) (fun (l1_5:Int)=>bif (decide (l1_5 < (a0.pieces.length:Int))) then ((ix a0.pieces l1_5).bind fun y3=>(ix a1.pieces l1_5).bind fun y4=>(f85 y3 y4).bind fun r5=>bif (!r5) then (some (.inr (.inr false))) else (some (.inl (wr (l1_5 + 1))))) else (some (.inr (.inl ())))) FUEL 0).bind (Sum.elim (fun (_:Unit)=>some true) some))
theorem f34_ok (a0:GConsort) (a1:GConsort) (r:Bool) (h:f34 a0 a1 = some r):APure Tryz.prog 34 [E_GConsort a0,E_GConsort a1] (.bool r):=by
 refine apure (clK (cl_GConsort a0) (clK (cl_GConsort a1) clZ)) rfl ?_
 refine wf 32 [.tmp 4] (c34 0) ?_
 unfold f34 at h
 refine W 3 [.n,.r [{},{},{ k:=1,n:=a0.pieces.length },{},{},{ k:=1,n:=a1.pieces.length }]] (cjC (mapLen a0.pieces E_GPiece) (cj1 (mapLen a1.pieces E_GPiece))) ?_
 rcases iteE h with ⟨hc1,h⟩ | ⟨hc1,h⟩
 ·replace h:=Option.some.inj h; subst h
  exact wR 4 [.t] (cj1 hc1)
 ·obtain ⟨ol1x,hll1x,h⟩:=bindE h
  refine W 5 [.f] (cj1 hc1) ?_
  refine wJ (fun (_:Unit)=>(zipE [] [])) (fun (_:Unit)=>⟨[],2⟩) (fun j=>ol1x = .inl j) (fun kl1=>?_) ?_
  ·refine wL 1 [] cj0 hll1x 2 (fun (l1_5:Int)=>(zipE [2,3,5] [.mp 0 0 0,.mp 1 0 0,.i l1_5])) (fun (l1_5:Int)=>⟨[(1,.cells 1 [E_GConsort a1]),(0,.cells 1 [E_GConsort a0])],2⟩) ?_
   rintro l1_5 out hl1 rl1 Kl1
   refine W 2 [.r [{},{},{},{ k:=1,n:=a0.pieces.length }]] (cj1 (mapLen a0.pieces E_GPiece)) ?_
   rcases iteE hl1 with ⟨hc2,hl1⟩ | ⟨hc2,hl1⟩
   ·obtain ⟨y3,hy3,hl1⟩:=bindE hl1
    obtain ⟨y4,hy4,hl1⟩:=bindE hl1
    obtain ⟨r5,hr5,hl1⟩:=bindE hl1
    refine W 6 [.t,.r [{},{},{},{ k:=1,x:=E_GPiece y3 },{},{},{},{},{ k:=1,x:=E_GPiece y4 },{},{ k:=7,x:=.bool r5 }]] (cjC hc2 (cjC ((ixE hy3).1) (cjC (mapGet E_GPiece (ixE hy3).2) (cjC ((ixE hy4).1) (cjC (mapGet E_GPiece (ixE hy4).2) (cj1 (f85_ok y3 y4 _ hr5))))))) ?_
    rcases iteE hl1 with ⟨hc6,hl1⟩ | ⟨hc6,hl1⟩
    ·replace hl1:=Option.some.inj hl1; subst hl1
     have hr:=rl1 _ rfl
     subst hr
     replace h:=elimR h
     replace h:=Option.some.inj h; subst h
     exact wR 8 [.t] (cjC hc6 (cj1 (Kl1.o _ rfl)))
    ·replace hl1:=Option.some.inj hl1; subst hl1
     exact wX 5 [.f] (cj1 hc6) (Kl1.n _ rfl)
   ·replace hl1:=Option.some.inj hl1; subst hl1
    have hr:=rl1 _ rfl
    subst hr
    exact wX 5 [.f] (cjC hc2 (cj1 (Kl1.o _ rfl))) (kl1 () rfl)
  ·rintro ⟨⟩ rfl
   replace h:=elimL h
   replace h:=Option.some.inj h; subst h
   exact wR 3 [] cj0
def f4 (a0:List GPiece):Option Bool:=(f9 a0).bind fun r1=>bif r1 then ((f10).bind fun r3=>some r3) else ((f30 (⟨a0⟩:GConsort)).bind fun r4=>(f31 (⟨a0⟩:GConsort)).bind fun r5=>bif (decide (r4 ≠ r5)) then (some false) else ((f32 a0).bind fun r7=>(f33 a0).bind fun r8=>((bif (decide (r7.2 = r8.2)) then ((f34 r7.1 r8.1).bind fun r10=>bif r10 then ((f10).bind fun r12=>some r12) else (some false)) else (some false)):Option Bool).bind fun (j1_2:Bool)=>some j1_2))
theorem f4_ok (a0:List GPiece) (r:Bool) (h:f4 a0 = some r):APure Tryz.prog 4 [.sl false (a0.map E_GPiece)] (.bool r):=by
 refine apure (clK (cleanMap a0 _ cl_GPiece) clZ) rfl ?_
 refine wf 38 [.tmp 2] (c4 0) ?_
 unfold f4 at h
 obtain ⟨r1,hr1,h⟩:=bindE h
 refine W 3 [.n,.r [{},{ k:=7,x:=.bool r1 }]] (cj1 (f9_ok a0 _ hr1)) ?_
 rcases iteE h with ⟨hc2,h⟩ | ⟨hc2,h⟩
 ·obtain ⟨r3,hr3,h⟩:=bindE h
  replace h:=Option.some.inj h; subst h
  exact wR 4 [.t,.r [{ k:=7,x:=.bool r3 }]] (cjC hc2 (cj1 (f10_ok  _ hr3)))
 ·obtain ⟨r4,hr4,h⟩:=bindE h
  obtain ⟨r5,hr5,h⟩:=bindE h
  refine W 5 [.f,.r [{},{},{ k:=7,x:=.i r4 },{},{},{ k:=7,x:=.i r5 }]] (cjC hc2 (cjC (f30_ok (⟨a0⟩:GConsort) _ hr4) (cj1 (f31_ok (⟨a0⟩:GConsort) _ hr5)))) ?_
  rcases iteE h with ⟨hc6,h⟩ | ⟨hc6,h⟩
  ·replace h:=Option.some.inj h; subst h
   exact wR 4 [.t] (cj1 hc6)
  ·obtain ⟨r7,hr7,h⟩:=bindE h
   obtain ⟨r8,hr8,h⟩:=bindE h
   obtain ⟨j1_2,hj1,h⟩:=bindE h
   refine W 5 [.f,.r [{},{ k:=7,x:=.tup [E_GConsort r7.1,.i r7.2] }],.r [{},{ k:=7,x:=.tup [E_GConsort r8.1,.i r8.2] }]] (cjC hc6 (cjC (f32_ok a0 _ hr7) (cj1 (f33_ok a0 _ hr8)))) ?_
   refine wG (fun (j1_2:Bool)=>(zipE [2] [.bool j1_2])) (fun (j1_2:Bool)=>⟨[],2⟩) (fun j=>j1_2 = j) (fun kj1=>?_) ?_
   ·rcases iteE hj1 with ⟨hc9,hj1⟩ | ⟨hc9,hj1⟩
    ·obtain ⟨r10,hr10,hj1⟩:=bindE hj1
     rcases iteE hj1 with ⟨hc11,hj1⟩ | ⟨hc11,hj1⟩
     ·obtain ⟨r12,hr12,hj1⟩:=bindE hj1
      replace hj1:=Option.some.inj hj1; subst hj1
      exact wX 1 [.r [{},{},{},{},{},{},{ k:=7,x:=.bool r10 },{ k:=1,b:=true },{},{ k:=7,x:=.bool r12 },{ k:=1,b:=true }]] (cjC hc9 (cjC hc9 (cjC hc9 (cjC (f34_ok r7.1 r8.1 _ hr10) (cjC hc9 (cjC hc11 (cjC (f10_ok  _ hr12) (cj1 hc11)))))))) (kj1 r12 rfl)
     ·replace hj1:=Option.some.inj hj1; subst hj1
      exact wX 1 [.r [{},{},{},{},{},{},{ k:=7,x:=.bool r10 },{ k:=1,b:=true },{},{ g:=false },{ k:=1,b:=false }]] (cjC hc9 (cjC hc9 (cjC hc9 (cjC (f34_ok r7.1 r8.1 _ hr10) (cjC hc9 (cjC hc11 (cj1 hc11))))))) (kj1 false rfl)
    ·replace hj1:=Option.some.inj hj1; subst hj1
     exact wX 1 [.r [{},{},{},{},{ g:=false },{ g:=false },{ g:=false },{ k:=1,b:=false },{},{ g:=false }]] (cjC hc9 (cjC hc9 (cjC hc9 (cjC hc9 (cj1 (Eq.refl false)))))) (kj1 false rfl)
   ·rintro _ rfl
    replace h:=Option.some.inj h; subst h
    exact wR 1 [] cj0
end Go.Proofs.YtodkhgjhodmeoaaGreat
