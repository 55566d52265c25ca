/-
 Functions of the program as Lean functions,and the walks. Written by a program of ours.
-/
import Derived.Test.YtodkhgjhodmeoaaGreatV4a
import Derived.Test.YtodkhgjhodmeoaaGreatV4b
import Derived.Test.YtodkhgjhodmeoaaGreatV4
import Derived.Test.YtodkhgjhodmeoaaGreatV40
import Derived.Test.YtodkhgjhodmeoaaGreatV5
namespace Go.Proofs.YtodkhgjhodmeoaaGreat
open Go Go.Am
set_option maxRecDepth 100000
set_option linter.all false
noncomputable section
noncomputable def c6 (k:Nat):Code:=nthC (subs (Tryz.f6.body.getD .skip)) k
def f6 (a0:GPiece):Option Bool:=(f9 ([a0]:List GPiece)).bind fun r1=>bif r1 then ((f10).bind fun r3=>some r3) else ((f37 (⟨([a0]:List GPiece)⟩:GConsort)).bind fun r4=>(f40 a0).bind fun r5=>((bif (decide (r4.2 ≠ r5.2)) then (some true) else ((f39 r4.1 r5.1).bind fun r7=>some (!r7))):Option Bool).bind fun (j1_39:Bool)=>bif j1_39 then (some false) else (bif (decide (r4.2 ≠ 0)) then ((f10).bind fun r10=>some r10) else ((f35 (⟨([a0]:List GPiece)⟩:GConsort)).bind fun r11=>(f41 a0).bind fun r12=>((bif (decide (r11.2 ≠ 0)) then (some true) else (bif (decide ((r11.1.length:Int) ≠ (a0.events.length:Int))) then (some true) else (some (decide ((r12.1.length:Int) ≠ (wr ((a0.events.length:Int) + 1))))))):Option Bool).bind fun (j2_71:Bool)=>bif j2_71 then (some false) else ((loopN (σ:=Int) (τ:=(Unit ⊕ Bool)) (fun (l3_74:Int)=>bif (decide (l3_74 < (r11.1.length:Int))) then ((ix r11.1 l3_74).bind fun y17=>(ix r12.1 l3_74).bind fun y18=>bif (!(eq_GCue y17 (⟨y18,0,l3_74⟩:GCue))) then (some (.inr (.inr false))) else (some (.inl (wr (l3_74 + 1))))) else (some (.inr (.inl ())))) FUEL 0).bind (Sum.elim (fun (_:Unit)=>(f32 ([a0]:List GPiece)).bind fun r20=>((bif (decide (r20.2 = 0)) then ((f34 (⟨([a0]:List GPiece)⟩:GConsort) r20.1).bind fun r22=>bif r22 then ((f10).bind fun r24=>some r24) else (some false)) else (some false)):Option Bool).bind fun (j4_2:Bool)=>some j4_2) some)))))
theorem f6_ok (a0:GPiece) (r:Bool) (h:f6 a0 = some r):APure Tryz.prog 6 [E_GPiece a0] (.bool r):=by
 refine apure (clK (cl_GPiece a0) clZ) rfl ?_
 refine wf 104 [.tmp 2] (c6 0) ?_
 unfold f6 at h
 obtain ⟨r1,hr1,h⟩:=bindE h
 refine W 3 [.n,.r [{},{},{ k:=7,x:=.bool r1 }]] (cj1 (APure.co (ok:=fun _=>false) (π:=id) (args:=[.sl true [E_GPiece a0]]) (f9_ok ([a0]:List GPiece) _ hr1) (.k (.s (cleanMap (([a0]:List GPiece)) _ cl_GPiece)) .z))) ?_
 rcases iteE h with ⟨hc2,h⟩ | ⟨hc2,h⟩
 ·obtain ⟨r3,hr3,h⟩:=bindE h
  replace h:=Option.some.inj h; subst h
  exact wR 4 [.t,.r [{ k:=7,x:=.bool r3 }]] (cjC hc2 (cj1 (f10_ok  _ hr3)))
 ·obtain ⟨r4,hr4,h⟩:=bindE h
  obtain ⟨r5,hr5,h⟩:=bindE h
  obtain ⟨j1_39,hj1,h⟩:=bindE h
  refine W 7 [.f,.n,.r [{},{ k:=7,x:=.tup [.sl false (r4.1.map E_GTone),.i r4.2] }],.r [{},{ k:=7,x:=.tup [.sl false (r5.1.map E_GTone),.i r5.2] }]] (cjC hc2 (cjC (APure.co (ok:=fun _=>false) (π:=id) (args:=[.agg [.sl true [E_GPiece a0]]]) (f37_ok (⟨([a0]:List GPiece)⟩:GConsort) _ hr4) (.k (.a (.k (.s (cleanMap (([a0]:List GPiece)) _ cl_GPiece)) .z)) .z)) (cj1 (f40_ok a0 _ hr5)))) ?_
  refine wG (fun (j1_39:Bool)=>(zipE [1,3,5,39] [.mp 0 0 0,.mp 1 0 0,.i r4.2,.bool j1_39])) (fun (j1_39:Bool)=>⟨[(1,.cells 1 [.agg [.sl true [E_GPiece a0]]]),(0,.cells 3 [E_GPiece a0])],2⟩) (fun j=>j1_39 = j) (fun kj1=>?_) ?_
  ·rcases iteE hj1 with ⟨hc6,hj1⟩ | ⟨hc6,hj1⟩
   ·replace hj1:=Option.some.inj hj1; subst hj1
    exact wX 1 [.r [{},{},{},{},{ g:=false },{ g:=false },{ g:=false },{ g:=false },{ k:=1,b:=true }]] (cjC hc6 (cjC hc6 (cjC hc6 (cjC hc6 (cj1 hc6))))) (kj1 true rfl)
   ·obtain ⟨r7,hr7,hj1⟩:=bindE hj1
    replace hj1:=Option.some.inj hj1; subst hj1
    exact wX 1 [.r [{},{},{},{},{},{},{ k:=7,x:=.bool r7 },{},{ k:=1,b:=false }]] (cjC hc6 (cjC hc6 (cjC hc6 (cjC (f39_ok r4.1 r5.1 _ hr7) (cjC hc6 (cj1 hc6)))))) (kj1 (!r7) rfl)
  ·rintro _ rfl
   rcases iteE h with ⟨hc8,h⟩ | ⟨hc8,h⟩
   ·replace h:=Option.some.inj h; subst h
    exact wR 4 [.t] (cj1 hc8)
   ·refine W 5 [.f] (cj1 hc8) ?_
    rcases iteE h with ⟨hc9,h⟩ | ⟨hc9,h⟩
    ·obtain ⟨r10,hr10,h⟩:=bindE h
     replace h:=Option.some.inj h; subst h
     exact wR 4 [.t,.r [{ k:=7,x:=.bool r10 }]] (cjC hc9 (cj1 (f10_ok  _ hr10)))
    ·obtain ⟨r11,hr11,h⟩:=bindE h
     obtain ⟨r12,hr12,h⟩:=bindE h
     obtain ⟨j2_71,hj2,h⟩:=bindE h
     refine W 6 [.f,.r [{},{ k:=7,x:=.tup [.sl false (r11.1.map E_GCue),.i r11.2] }],.r [{},{ k:=7,x:=.tup [.sl false (r12.1.map AV.i),.i r12.2] }]] (cjC hc9 (cjC (APure.co (ok:=fun _=>false) (π:=id) (args:=[.agg [.sl true [E_GPiece a0]]]) (f35_ok (⟨([a0]:List GPiece)⟩:GConsort) _ hr11) (.k (.a (.k (.s (cleanMap (([a0]:List GPiece)) _ cl_GPiece)) .z)) .z)) (cj1 (f41_ok a0 _ hr12)))) ?_
     refine wG (fun (j2_71:Bool)=>(zipE [1,3,8,9,71] [.mp 0 0 0,.mp 1 0 0,.sl false (r11.1.map E_GCue),.sl false (r12.1.map AV.i),.bool j2_71])) (fun (j2_71:Bool)=>⟨[(1,.cells 1 [.agg [.sl true [E_GPiece a0]]]),(0,.cells 3 [E_GPiece a0])],2⟩) (fun j=>j2_71 = j) (fun kj2=>?_) ?_
     ·rcases iteE hj2 with ⟨hc13,hj2⟩ | ⟨hc13,hj2⟩
      ·replace hj2:=Option.some.inj hj2; subst hj2
       exact wX 1 [.r [{},{},{},{ g:=false },{ g:=false },{ g:=false },{ g:=false },{ g:=false },{ g:=false },{ k:=1,b:=true },{},{ g:=false },{ g:=false },{ g:=false },{ g:=false },{ g:=false },{ g:=false },{ g:=false }]] (cjC hc13 (cjC hc13 (cjC hc13 (cjC hc13 (cjC hc13 (cjC hc13 (cjC hc13 (cjC (Eq.refl true) (cjC (Eq.refl true) (cjC (Eq.refl true) (cjC (Eq.refl true) (cjC (Eq.refl true) (cjC (Eq.refl true) (cj1 (Eq.refl true))))))))))))))) (kj2 true rfl)
      ·rcases iteE hj2 with ⟨hc14,hj2⟩ | ⟨hc14,hj2⟩
       ·replace hj2:=Option.some.inj hj2; subst hj2
        exact wX 1 [.r [{},{},{},{},{ k:=1,n:=r11.1.length },{},{},{ k:=1,n:=a0.events.length },{},{ k:=1,b:=false },{},{ g:=false },{ g:=false },{ g:=false },{ g:=false },{ g:=false },{ g:=false },{ g:=false },{ k:=1,b:=true }]] (cjC hc13 (cjC hc13 (cjC (mapLen r11.1 E_GCue) (cjC hc13 (cjC hc13 (cjC hc13 (cjC (mapLen a0.events E_GEvent) (cjC hc13 (cjC hc13 (cjC hc14 (cjC hc14 (cjC hc14 (cjC hc14 (cjC hc14 (cjC hc14 (cjC hc14 (cj1 hc14))))))))))))))))) (kj2 true rfl)
       ·replace hj2:=Option.some.inj hj2; subst hj2
        exact wX 1 [.r [{},{},{},{},{ k:=1,n:=r11.1.length },{},{},{ k:=1,n:=a0.events.length },{},{ k:=1,b:=false },{},{},{ k:=1,n:=r12.1.length },{},{},{ k:=1,n:=a0.events.length },{},{},{ k:=1,b:=false }]] (cjC hc13 (cjC hc13 (cjC (mapLen r11.1 E_GCue) (cjC hc13 (cjC hc13 (cjC hc13 (cjC (mapLen a0.events E_GEvent) (cjC hc13 (cjC hc13 (cjC hc14 (cjC hc14 (cjC (mapLen r12.1 AV.i) (cjC hc14 (cjC hc14 (cjC hc14 (cjC (mapLen a0.events E_GEvent) (cjC hc14 (cjC hc14 (cj1 hc14))))))))))))))))))) (kj2 (decide ((r12.1.length:Int) ≠ (wr ((a0.events.length:Int) + 1)))) rfl)
     ·rintro _ rfl
      rcases iteE h with ⟨hc15,h⟩ | ⟨hc15,h⟩
      ·replace h:=Option.some.inj h; subst h
       exact wR 4 [.t] (cj1 hc15)
      ·obtain ⟨ol3x,hll3x,h⟩:=bindE h
       refine W 5 [.f,.r [{},{ k:=1,n:=r11.1.length }]] (cjC hc15 (cj1 (mapLen r11.1 E_GCue))) ?_
       refine wJ (fun (_:Unit)=>(zipE [1,3] [.mp 0 0 0,.mp 1 0 0])) (fun (_:Unit)=>⟨[(1,.cells 1 [.agg [.sl true [E_GPiece a0]]]),(0,.cells 3 [E_GPiece a0])],2⟩) (fun j=>ol3x = .inl j) (fun kl3=>?_) ?_
       ·refine wLc 1 [] cj0 hll3x 2 (fun (l3_74:Int)=>(zipE [1,3,9,72,73,74] [.mp 0 0 0,.mp 1 0 0,.sl false (r12.1.map AV.i),.sl false (r11.1.map E_GCue),.i (r11.1.length:Int),.i l3_74])) (fun (l3_74:Int)=>⟨[(1,.cells 1 [.agg [.sl true [E_GPiece a0]]]),(0,.cells 3 [E_GPiece a0])],2⟩) r0 (fun l3_74=>idok (.k (.mp rfl rfl) (.k (.mp rfl rfl) (.k (.c (cleanMap _ _ cl_i)) (.k (.c (cleanMap _ _ cl_GCue)) (.k (.c rfl) (.k (.c rfl) .z)))))) (.k (x':=.cells 1 [.agg [.sl true [E_GPiece a0]]]) (by kernel_rfl) (.cells (.k (.a (.k (.c (clK (cl_GPiece a0) clZ)) .z)) .z)) (.k (x':=.cells 3 [E_GPiece a0]) (by kernel_rfl) (.cells (.k (.c (cl_GPiece a0)) .z)) .z))) ?_
        rintro l3_74 out hl3 rl3 Kl3
        rcases iteE hl3 with ⟨hc16,hl3⟩ | ⟨hc16,hl3⟩
        ·obtain ⟨y17,hy17,hl3⟩:=bindE hl3
         obtain ⟨y18,hy18,hl3⟩:=bindE hl3
         refine W 9 [.t,.r [{},{ k:=1,x:=E_GCue y17 }],.r [{},{},{},{ k:=1,x:=AV.i y18 }]] (cjC hc16 (cjC ((ixE hy17).1) (cjC (mapGet E_GCue (ixE hy17).2) (cjC ((ixE hy18).1) (cj1 (mapGet AV.i (ixE hy18).2)))))) ?_
         rcases iteE hl3 with ⟨hc19,hl3⟩ | ⟨hc19,hl3⟩
         ·replace hl3:=Option.some.inj hl3; subst hl3
          have hr:=rl3 _ rfl
          subst hr
          replace h:=elimR h
          replace h:=Option.some.inj h; subst h
          exact wR 8 [.t] (cjC hc19 (cj1 (Kl3.o _ rfl)))
         ·replace hl3:=Option.some.inj hl3; subst hl3
          exact wD 5 [.f] (cj1 hc19) (fun _ _=>Kl3.d _ _ _ rfl)
        ·replace hl3:=Option.some.inj hl3; subst hl3
         have hr:=rl3 _ rfl
         subst hr
         exact wX 7 [.f] (cjC hc16 (cj1 (Kl3.o _ rfl))) (kl3 () rfl)
       ·rintro ⟨⟩ rfl
        replace h:=elimL h
        obtain ⟨r20,hr20,h⟩:=bindE h
        obtain ⟨j4_2,hj4,h⟩:=bindE h
        refine W 2 [.r [{},{},{ k:=7,x:=.tup [E_GConsort r20.1,.i r20.2] }]] (cj1 (APure.co (ok:=fun _=>false) (π:=id) (args:=[.sl true [E_GPiece a0]]) (f32_ok ([a0]:List GPiece) _ hr20) (.k (.s (cleanMap (([a0]:List GPiece)) _ cl_GPiece)) .z))) ?_
        refine wG (fun (j4_2:Bool)=>(zipE [2] [.bool j4_2])) (fun (j4_2:Bool)=>⟨[],3⟩) (fun j=>j4_2 = j) (fun kj4=>?_) ?_
        ·rcases iteE hj4 with ⟨hc21,hj4⟩ | ⟨hc21,hj4⟩
         ·obtain ⟨r22,hr22,hj4⟩:=bindE hj4
          rcases iteE hj4 with ⟨hc23,hj4⟩ | ⟨hc23,hj4⟩
          ·obtain ⟨r24,hr24,hj4⟩:=bindE hj4
           replace hj4:=Option.some.inj hj4; subst hj4
           exact wX 1 [.r [{},{},{},{},{},{ k:=7,x:=.bool r22 },{ k:=1,b:=true },{},{ k:=7,x:=.bool r24 },{ k:=1,b:=true }]] (cjC hc21 (cjC hc21 (cjC hc21 (cjC (APure.co (ok:=fun _=>false) (π:=id) (args:=[.agg [.sl true [E_GPiece a0]],E_GConsort r20.1]) (f34_ok (⟨([a0]:List GPiece)⟩:GConsort) r20.1 _ hr22) (.k (.a (.k (.s (cleanMap (([a0]:List GPiece)) _ cl_GPiece)) .z)) (.k (.c (cl_GConsort r20.1)) .z))) (cjC hc21 (cjC hc23 (cjC (f10_ok  _ hr24) (cj1 hc23)))))))) (kj4 r24 rfl)
          ·replace hj4:=Option.some.inj hj4; subst hj4
           exact wX 1 [.r [{},{},{},{},{},{ k:=7,x:=.bool r22 },{ k:=1,b:=true },{},{ g:=false },{ k:=1,b:=false }]] (cjC hc21 (cjC hc21 (cjC hc21 (cjC (APure.co (ok:=fun _=>false) (π:=id) (args:=[.agg [.sl true [E_GPiece a0]],E_GConsort r20.1]) (f34_ok (⟨([a0]:List GPiece)⟩:GConsort) r20.1 _ hr22) (.k (.a (.k (.s (cleanMap (([a0]:List GPiece)) _ cl_GPiece)) .z)) (.k (.c (cl_GConsort r20.1)) .z))) (cjC hc21 (cjC hc23 (cj1 hc23))))))) (kj4 false rfl)
         ·replace hj4:=Option.some.inj hj4; subst hj4
          exact wX 1 [.r [{},{},{},{ g:=false },{ g:=false },{ g:=false },{ k:=1,b:=false },{},{ g:=false }]] (cjC hc21 (cjC hc21 (cjC hc21 (cjC hc21 (cj1 (Eq.refl false)))))) (kj4 false rfl)
        ·rintro _ rfl
         replace h:=Option.some.inj h; subst h
         exact wR 1 [] cj0
end
end Go.Proofs.YtodkhgjhodmeoaaGreat
