/-
 Functions of the program as Lean functions,and the walks. Written by a program of ours.
-/
import Derived.Test.YtplpfocfcppajaaGreatV6
import Derived.Test.YtplpfocfcppajaaGreatV33
import Derived.Test.YtplpfocfcppajaaGreatV4
namespace Go.Proofs.YtplpfocfcppajaaGreat
open Go Go.Am
set_option maxRecDepth 100000
set_option linter.all false
noncomputable def c44 (k:Nat):Code:=nthC (subs (Tryz.f44.body.getD .skip)) k
noncomputable def c156 (k:Nat):Code:=nthC (subs (Tryz.f156.body.getD .skip)) k
noncomputable def c121 (k:Nat):Code:=nthC (subs (Tryz.f121.body.getD .skip)) k
noncomputable def c87 (k:Nat):Code:=nthC (subs (Tryz.f87.body.getD .skip)) k
noncomputable def c45 (k:Nat):Code:=nthC (subs (Tryz.f45.body.getD .skip)) k
def f44 (a0:GInstrument):Option Int:=((bif (decide (14 < (a0.courses.length:Int))) then (some true) else (some (decide (18 < (a0.steps.length:Int))))):Option Bool).bind fun (j1_17:Bool)=>bif j1_17 then (some 2) else (bif (decide ((a0.courses.length:Int) = 0)) then (some 11) else ((loopN (σ:=(Int × Int)) (τ:=(Unit ⊕ Int)) (fun ((l2_3,l2_4):(Int × Int))=>bif (decide (l2_4 < (a0.steps.length:Int))) then ((((ix a0.steps l2_4).bind fun y5=>bif (decide (y5 ≤ l2_3)) then (some true) else (some (decide (127 < y5)))):Option Bool).bind fun (j3_43:Bool)=>bif j3_43 then (some (.inr (.inr 11))) else ((ix a0.steps l2_4).bind fun y8=>some (.inl (y8,(wr (l2_4 + 1)))))) else (some (.inr (.inl ())))) FUEL (0,0)).bind (Sum.elim (fun (_:Unit)=>(loopN (σ:=Int) (τ:=(Unit ⊕ Int)) (fun (l4_5:Int)=>bif (decide (l4_5 < (a0.courses.length:Int))) then ((ix a0.courses l4_5).bind fun y10=>((bif (decide (y10.frets < 0)) then (some true) else (some (decide ((a0.steps.length:Int) < y10.frets)))):Option Bool).bind fun (j5_71:Bool)=>bif j5_71 then (some (.inr (.inr 13))) else (((bif (decide (y10.pitch < 0)) then (some true) else (some (decide (127 < y10.pitch)))):Option Bool).bind fun (j6_79:Bool)=>bif j6_79 then (some (.inr (.inr 10))) else (((bif (decide (0 < y10.frets)) then ((ix a0.steps (wr (y10.frets - 1))).bind fun y16=>some (wr (y10.pitch + y16))) else (some y10.pitch)):Option Int).bind fun (j7_7:Int)=>((bif y10.octave then (some (wr (j7_7 + 12))) else (some j7_7)):Option Int).bind fun (j8_7:Int)=>bif (decide (127 < j8_7)) then (some (.inr (.inr 10))) else (some (.inl (wr (l4_5 + 1))))))) else (some (.inr (.inl ())))) FUEL 0).bind (Sum.elim (fun (_:Unit)=>some 0) some)) some)))
theorem f44_ok (a0:GInstrument) (r:Int) (h:f44 a0 = some r):APure Tryz.prog 44 [E_GInstrument a0] (.i r):=by
 refine apure (clK (cl_GInstrument a0) clZ) rfl ?_
 refine run_f 100 [.tmp 2] (c44 0) (zipE [0] [E_GInstrument a0]) (by kernel_rfl) (by kernel_rfl) (by kernel_rfl) rfl ?_
 unfold f44 at h
 refine run1z (c44 2) [] [1] [.mp 0 0 0] ⟨[(0,.cells 2 [E_GInstrument a0])],1⟩ _ (by kernel_rfl) cj0 ?_
 refine run_s (c44 3) (c44 10) (by kernel_rfl) ?_
 obtain ⟨j1_17,hj1,h⟩:=bindE h
 refine run_gq (c44 5) (fun (j1_17:Bool)=>(zipE [1,17] [.mp 0 0 0,.bool j1_17])) (fun (j1_17:Bool)=>⟨[(0,.cells 2 [E_GInstrument a0])],1⟩) (fun j=>j1_17 = j) (fun kj1=>?_) ?_
 ·rcases iteE hj1 with ⟨hc1,hj1⟩ | ⟨hc1,hj1⟩
  ·replace hj1:=Option.some.inj hj1; subst hj1
   exact run1z (c44 5) [{},{},{ k:=1,n:=a0.courses.length },{},{},{ g:=false },{ g:=false },{ g:=false },{ g:=false },{ k:=1,b:=true }] [1,17] [.mp 0 0 0,.bool true] ⟨[(0,.cells 2 [E_GInstrument a0])],1⟩ _ (by kernel_rfl) (cjC (mapLen a0.courses E_GCourse) (cjC (hc1) (cjC (hc1) (cjC (hc1) (cjC (hc1) (cj1 (hc1))))))) (kj1 true rfl)
  ·replace hj1:=Option.some.inj hj1; subst hj1
   exact run1z (c44 5) [{},{},{ k:=1,n:=a0.courses.length },{},{},{},{},{ k:=1,n:=a0.steps.length },{},{ k:=1,b:=false }] [1,17] [.mp 0 0 0,.bool (decide (18 < (a0.steps.length:Int)))] ⟨[(0,.cells 2 [E_GInstrument a0])],1⟩ _ (by kernel_rfl) (cjC (mapLen a0.courses E_GCourse) (cjC (hc1) (cjC (hc1) (cjC (hc1) (cjC (mapLen a0.steps AV.i) (cjC (hc1) (cj1 (hc1)))))))) (kj1 (decide (18 < (a0.steps.length:Int))) rfl)
 ·rintro _ rfl
  rcases iteE h with ⟨hc2,h⟩ | ⟨hc2,h⟩
  ·refine run_cT 17 (c44 6) (c44 9) j1_17 hc2 (by kernel_rfl) (by kernel_rfl) ?_
   refine run1z (c44 8) [] [2] [.i 2] ⟨[],1⟩ _ (by kernel_rfl) cj0 ?_
   refine run_t (by kernel_rfl) ?_
   refine thenR ?_
   replace h:=Option.some.inj h; subst h
   exact fin_r (by kernel_rfl) rfl
  ·refine run_cF 17 (c44 6) (c44 9) j1_17 hc2 (by kernel_rfl) (by kernel_rfl) ?_
   refine run_k (by kernel_rfl) ?_
   refine thenN ?_
   refine run_s (c44 11) (c44 18) (by kernel_rfl) ?_
   refine run1z (c44 13) [{},{},{ k:=1,n:=a0.courses.length }] [1,21] [.mp 0 0 0,.bool (decide ((a0.courses.length:Int) = 0))] ⟨[(0,.cells 2 [E_GInstrument a0])],1⟩ _ (by kernel_rfl) (cj1 (mapLen a0.courses E_GCourse)) ?_
   rcases iteE h with ⟨hc3,h⟩ | ⟨hc3,h⟩
   ·refine run_cT 21 (c44 14) (c44 17) (decide ((a0.courses.length:Int) = 0)) hc3 (by kernel_rfl) (by kernel_rfl) ?_
    refine run1z (c44 16) [] [2] [.i 11] ⟨[],1⟩ _ (by kernel_rfl) cj0 ?_
    refine run_t (by kernel_rfl) ?_
    refine thenR ?_
    replace h:=Option.some.inj h; subst h
    exact fin_r (by kernel_rfl) rfl
   ·refine run_cF 21 (c44 14) (c44 17) (decide ((a0.courses.length:Int) = 0)) hc3 (by kernel_rfl) (by kernel_rfl) ?_
    refine run_k (by kernel_rfl) ?_
    refine thenN ?_
    refine run1z (c44 20) [] [1,3] [.mp 0 0 0,.i 0] ⟨[(0,.cells 2 [E_GInstrument a0])],1⟩ _ (by kernel_rfl) cj0 ?_
    refine run_s (c44 21) (c44 43) (by kernel_rfl) ?_
    refine run1z (c44 23) [] [1,3,4] [.mp 0 0 0,.i 0,.i 0] ⟨[(0,.cells 2 [E_GInstrument a0])],1⟩ _ (by kernel_rfl) cj0 ?_
    obtain ⟨ol2x,hll2x,h⟩:=bindE h
    refine run_tq (fun (_:Unit)=>(zipE [1] [.mp 0 0 0])) (fun (_:Unit)=>⟨[(0,.cells 2 [E_GInstrument a0])],1⟩) (fun j=>ol2x = .inl j) (fun kl2=>?_) ?_
    ·refine run_b 0 (c44 24) (by kernel_rfl) ?_
     refine run_l (c44 25) _ hll2x (fun ((l2_3,l2_4):(Int × Int))=>(zipE [1,3,4] [.mp 0 0 0,.i l2_3,.i l2_4])) (fun ((l2_3,l2_4):(Int × Int))=>⟨[(0,.cells 2 [E_GInstrument a0])],1⟩) [] (by intro i e; cases e <;> exact Nat.le_of_ble_eq_true rfl) (by kernel_rfl) (mkInto (ks:=[1,3,4]) (ys:=[.mp 0 0 0,.i 0,.i 0]) (by kernel_rfl) (by kernel_rfl) (.k (.mp rfl rfl) (.k (.c rfl) (.k (.c rfl) .z))) (.k (x':=.cells 2 [E_GInstrument a0]) (by kernel_rfl) (.cells (.k (.c (cl_GInstrument a0)) .z)) .z)) ?_
     rintro ⟨l2_3,l2_4⟩ out hl2 rl2
     refine run_s (c44 26) (c44 31) (by kernel_rfl) ?_
     refine run1z (c44 28) [{},{},{},{ k:=1,n:=a0.steps.length }] [1,3,4,26] [.mp 0 0 0,.i l2_3,.i l2_4,.bool (decide (l2_4 < (a0.steps.length:Int)))] ⟨[(0,.cells 2 [E_GInstrument a0])],1⟩ _ (by kernel_rfl) (cj1 (mapLen a0.steps AV.i)) ?_
     rcases iteE hl2 with ⟨hc4,hl2⟩ | ⟨hc4,hl2⟩
     ·refine run_cT 26 (c44 29) (c44 30) (decide (l2_4 < (a0.steps.length:Int))) hc4 (by kernel_rfl) (by kernel_rfl) ?_
      refine run_k (by kernel_rfl) ?_
      refine thenN ?_
      refine run_s (c44 32) (c44 42) (by kernel_rfl) ?_
      refine run_b 1 (c44 33) (by kernel_rfl) ?_
      refine run_s (c44 34) (c44 41) (by kernel_rfl) ?_
      obtain ⟨j3_43,hj3,hl2⟩:=bindE hl2
      refine run_gq (c44 36) (fun (j3_43:Bool)=>(zipE [1,4,43] [.mp 0 0 0,.i l2_4,.bool j3_43])) (fun (j3_43:Bool)=>⟨[(0,.cells 2 [E_GInstrument a0])],1⟩) (fun j=>j3_43 = j) (fun kj3=>?_) ?_
      ·obtain ⟨y5,hy5,hj3⟩:=bindE hj3
       rcases iteE hj3 with ⟨hc6,hj3⟩ | ⟨hc6,hj3⟩
       ·replace hj3:=Option.some.inj hj3; subst hj3
        exact run1z (c44 36) [{},{},{},{ k:=1,x:=AV.i y5 },{},{},{},{},{ g:=false },{ g:=false },{ g:=false },{ g:=false },{ g:=false },{ g:=false },{ k:=1,b:=true }] [1,4,43] [.mp 0 0 0,.i l2_4,.bool true] ⟨[(0,.cells 2 [E_GInstrument a0])],1⟩ _ (by kernel_rfl) (cjC ((ixE hy5).1) (cjC (mapGet AV.i (ixE hy5).2) (cjC (hc6) (cjC (hc6) (cjC (hc6) (cjC (hc6) (cjC (hc6) (cjC (hc6) (cj1 (hc6)))))))))) (kj3 true rfl)
       ·replace hj3:=Option.some.inj hj3; subst hj3
        exact run1z (c44 36) [{},{},{},{ k:=1,x:=AV.i y5 },{},{},{},{},{},{},{},{ k:=1,x:=AV.i y5 },{},{},{ k:=1,b:=false }] [1,4,43] [.mp 0 0 0,.i l2_4,.bool (decide (127 < y5))] ⟨[(0,.cells 2 [E_GInstrument a0])],1⟩ _ (by kernel_rfl) (cjC ((ixE hy5).1) (cjC (mapGet AV.i (ixE hy5).2) (cjC (hc6) (cjC (hc6) (cjC (hc6) (cjC (hc6) (cjC ((ixE hy5).1) (cjC (mapGet AV.i (ixE hy5).2) (cjC (hc6) (cjC (hc6) (cj1 (hc6)))))))))))) (kj3 (decide (127 < y5)) rfl)
      ·rintro _ rfl
       rcases iteE hl2 with ⟨hc7,hl2⟩ | ⟨hc7,hl2⟩
       ·refine run_cT 43 (c44 37) (c44 40) j3_43 hc7 (by kernel_rfl) (by kernel_rfl) ?_
        refine run1z (c44 39) [] [2] [.i 11] ⟨[],1⟩ _ (by kernel_rfl) cj0 ?_
        replace hl2:=Option.some.inj hl2; subst hl2
        have hr:=rl2 _ rfl
        subst hr
        replace h:=elimR h
        refine run_t (by kernel_rfl) ?_
        refine thenR ?_
        refine inbR ?_
        refine thenR ?_
        refine ⟨⟨_,rfl⟩,?_⟩
        refine inbR ?_
        refine thenR ?_
        replace h:=Option.some.inj h; subst h
        exact fin_r (by kernel_rfl) rfl
       ·refine run_cF 43 (c44 37) (c44 40) j3_43 hc7 (by kernel_rfl) (by kernel_rfl) ?_
        refine run_k (by kernel_rfl) ?_
        refine thenN ?_
        obtain ⟨y8,hy8,hl2⟩:=bindE hl2
        refine run0z [{},{},{},{ k:=1,x:=AV.i y8 }] [1,3,4] [.mp 0 0 0,.i y8,.i l2_4] ⟨[(0,.cells 2 [E_GInstrument a0])],1⟩ _ (by kernel_rfl) (cjC ((ixE hy8).1) (cj1 (mapGet AV.i (ixE hy8).2))) ?_
        refine inbN ?_
        refine thenN ?_
        refine run0z [] [1,3,4] [.mp 0 0 0,.i y8,.i (wr (l2_4 + 1))] ⟨[(0,.cells 2 [E_GInstrument a0])],1⟩ _ (by kernel_rfl) cj0 ?_
        replace hl2:=Option.some.inj hl2; subst hl2
        exact ⟨_,rfl,pi [],mkInto (ks:=[1,3,4]) (ys:=[.mp 0 0 0,.i y8,.i (wr (l2_4 + 1))]) (by kernel_rfl) (by kernel_rfl) (.k (.mp rfl rfl) (.k (.c rfl) (.k (.c rfl) .z))) (.k (x':=.cells 2 [E_GInstrument a0]) (by kernel_rfl) (.cells (.k (.c (cl_GInstrument a0)) .z)) .z)⟩
     ·refine run_cF 26 (c44 29) (c44 30) (decide (l2_4 < (a0.steps.length:Int))) hc4 (by kernel_rfl) (by kernel_rfl) ?_
      replace hl2:=Option.some.inj hl2; subst hl2
      have hr:=rl2 _ rfl
      subst hr
      refine awp_p [1] [0] (zipE [1] [.mp 0 0 0]) ⟨[(0,.cells 2 [E_GInstrument a0])],1⟩ (by kernel_rfl) (?_)
      refine run_e 0 (by kernel_rfl) ?_
      refine thenE ?_
      refine ⟨⟨_,rfl⟩,?_⟩
      refine inbE ?_
      exact kl2 () rfl
    ·rintro ⟨⟩ rfl
     replace h:=elimL h
     refine thenN ?_
     refine run_s (c44 44) (c44 96) (by kernel_rfl) ?_
     refine run1z (c44 46) [] [1,5] [.mp 0 0 0,.i 0] ⟨[(0,.cells 2 [E_GInstrument a0])],1⟩ _ (by kernel_rfl) cj0 ?_
     obtain ⟨ol4x,hll4x,h⟩:=bindE h
     refine run_tq (fun (_:Unit)=>(zipE [] [])) (fun (_:Unit)=>⟨[],1⟩) (fun j=>ol4x = .inl j) (fun kl4=>?_) ?_
     ·refine run_b 2 (c44 47) (by kernel_rfl) ?_
      refine run_l (c44 48) _ hll4x (fun (l4_5:Int)=>(zipE [1,5] [.mp 0 0 0,.i l4_5])) (fun (l4_5:Int)=>⟨[(0,.cells 2 [E_GInstrument a0])],1⟩) [] (by intro i e; cases e <;> exact Nat.le_of_ble_eq_true rfl) (by kernel_rfl) (mkInto (ks:=[1,5]) (ys:=[.mp 0 0 0,.i 0]) (by kernel_rfl) (by kernel_rfl) (.k (.mp rfl rfl) (.k (.c rfl) .z)) (.k (x':=.cells 2 [E_GInstrument a0]) (by kernel_rfl) (.cells (.k (.c (cl_GInstrument a0)) .z)) .z)) ?_
      rintro l4_5 out hl4 rl4
      refine run_s (c44 49) (c44 54) (by kernel_rfl) ?_
      refine run1z (c44 51) [{},{},{},{ k:=1,n:=a0.courses.length }] [1,5,53] [.mp 0 0 0,.i l4_5,.bool (decide (l4_5 < (a0.courses.length:Int)))] ⟨[(0,.cells 2 [E_GInstrument a0])],1⟩ _ (by kernel_rfl) (cj1 (mapLen a0.courses E_GCourse)) ?_
      rcases iteE hl4 with ⟨hc9,hl4⟩ | ⟨hc9,hl4⟩
      ·refine run_cT 53 (c44 52) (c44 53) (decide (l4_5 < (a0.courses.length:Int))) hc9 (by kernel_rfl) (by kernel_rfl) ?_
       refine run_k (by kernel_rfl) ?_
       refine thenN ?_
       refine run_s (c44 55) (c44 95) (by kernel_rfl) ?_
       refine run_b 3 (c44 56) (by kernel_rfl) ?_
       obtain ⟨y10,hy10,hl4⟩:=bindE hl4
       refine run1z (c44 58) [{},{},{},{ k:=1,x:=E_GCourse y10 }] [1,5,6] [.mp 0 0 0,.i l4_5,.mp 1 0 0] ⟨[(1,.cells 3 [E_GCourse y10]),(0,.cells 2 [E_GInstrument a0])],2⟩ _ (by kernel_rfl) (cjC ((ixE hy10).1) (cj1 (mapGet E_GCourse (ixE hy10).2))) ?_
       refine run_s (c44 59) (c44 66) (by kernel_rfl) ?_
       obtain ⟨j5_71,hj5,hl4⟩:=bindE hl4
       refine run_gq (c44 61) (fun (j5_71:Bool)=>(zipE [1,5,6,71] [.mp 0 0 0,.i l4_5,.mp 1 0 0,.bool j5_71])) (fun (j5_71:Bool)=>⟨[(1,.cells 3 [E_GCourse y10]),(0,.cells 2 [E_GInstrument a0])],2⟩) (fun j=>j5_71 = j) (fun kj5=>?_) ?_
       ·rcases iteE hj5 with ⟨hc11,hj5⟩ | ⟨hc11,hj5⟩
        ·replace hj5:=Option.some.inj hj5; subst hj5
         exact run1z (c44 61) [{},{},{},{},{ g:=false },{ g:=false },{ g:=false },{ g:=false },{ g:=false },{ g:=false },{ k:=1,b:=true }] [1,5,6,71] [.mp 0 0 0,.i l4_5,.mp 1 0 0,.bool true] ⟨[(1,.cells 3 [E_GCourse y10]),(0,.cells 2 [E_GInstrument a0])],2⟩ _ (by kernel_rfl) (cjC (hc11) (cjC (hc11) (cjC (hc11) (cjC (hc11) (cjC (hc11) (cjC (hc11) (cj1 (hc11)))))))) (kj5 true rfl)
        ·replace hj5:=Option.some.inj hj5; subst hj5
         exact run1z (c44 61) [{},{},{},{},{},{},{},{},{ k:=1,n:=a0.steps.length },{},{ k:=1,b:=false }] [1,5,6,71] [.mp 0 0 0,.i l4_5,.mp 1 0 0,.bool (decide ((a0.steps.length:Int) < y10.frets))] ⟨[(1,.cells 3 [E_GCourse y10]),(0,.cells 2 [E_GInstrument a0])],2⟩ _ (by kernel_rfl) (cjC (hc11) (cjC (hc11) (cjC (hc11) (cjC (hc11) (cjC (hc11) (cjC (mapLen a0.steps AV.i) (cjC (hc11) (cj1 (hc11))))))))) (kj5 (decide ((a0.steps.length:Int) < y10.frets)) rfl)
       ·rintro _ rfl
        rcases iteE hl4 with ⟨hc12,hl4⟩ | ⟨hc12,hl4⟩
        ·refine run_cT 71 (c44 62) (c44 65) j5_71 hc12 (by kernel_rfl) (by kernel_rfl) ?_
         refine run1z (c44 64) [] [2] [.i 13] ⟨[],2⟩ _ (by kernel_rfl) cj0 ?_
         replace hl4:=Option.some.inj hl4; subst hl4
         have hr:=rl4 _ rfl
         subst hr
         replace h:=elimR h
         refine run_t (by kernel_rfl) ?_
         refine thenR ?_
         refine inbR ?_
         refine thenR ?_
         refine ⟨⟨_,rfl⟩,?_⟩
         refine inbR ?_
         refine thenR ?_
         replace h:=Option.some.inj h; subst h
         exact fin_r (by kernel_rfl) rfl
        ·refine run_cF 71 (c44 62) (c44 65) j5_71 hc12 (by kernel_rfl) (by kernel_rfl) ?_
         refine run_k (by kernel_rfl) ?_
         refine thenN ?_
         refine run_s (c44 67) (c44 74) (by kernel_rfl) ?_
         obtain ⟨j6_79,hj6,hl4⟩:=bindE hl4
         refine run_gq (c44 69) (fun (j6_79:Bool)=>(zipE [1,5,6,79] [.mp 0 0 0,.i l4_5,.mp 1 0 0,.bool j6_79])) (fun (j6_79:Bool)=>⟨[(1,.cells 3 [E_GCourse y10]),(0,.cells 2 [E_GInstrument a0])],2⟩) (fun j=>j6_79 = j) (fun kj6=>?_) ?_
         ·rcases iteE hj6 with ⟨hc13,hj6⟩ | ⟨hc13,hj6⟩
          ·replace hj6:=Option.some.inj hj6; subst hj6
           exact run1z (c44 69) [{},{},{},{},{ g:=false },{ g:=false },{ g:=false },{ k:=1,b:=true }] [1,5,6,79] [.mp 0 0 0,.i l4_5,.mp 1 0 0,.bool true] ⟨[(1,.cells 3 [E_GCourse y10]),(0,.cells 2 [E_GInstrument a0])],2⟩ _ (by kernel_rfl) (cjC (hc13) (cjC (hc13) (cjC (hc13) (cj1 (hc13))))) (kj6 true rfl)
          ·replace hj6:=Option.some.inj hj6; subst hj6
           exact run1z (c44 69) [{},{},{},{},{},{},{},{ k:=1,b:=false }] [1,5,6,79] [.mp 0 0 0,.i l4_5,.mp 1 0 0,.bool (decide (127 < y10.pitch))] ⟨[(1,.cells 3 [E_GCourse y10]),(0,.cells 2 [E_GInstrument a0])],2⟩ _ (by kernel_rfl) (cjC (hc13) (cjC (hc13) (cjC (hc13) (cj1 (hc13))))) (kj6 (decide (127 < y10.pitch)) rfl)
         ·rintro _ rfl
          rcases iteE hl4 with ⟨hc14,hl4⟩ | ⟨hc14,hl4⟩
          ·refine run_cT 79 (c44 70) (c44 73) j6_79 hc14 (by kernel_rfl) (by kernel_rfl) ?_
           refine run1z (c44 72) [] [2] [.i 10] ⟨[],2⟩ _ (by kernel_rfl) cj0 ?_
           replace hl4:=Option.some.inj hl4; subst hl4
           have hr:=rl4 _ rfl
           subst hr
           replace h:=elimR h
           refine run_t (by kernel_rfl) ?_
           refine thenR ?_
           refine inbR ?_
           refine thenR ?_
           refine ⟨⟨_,rfl⟩,?_⟩
           refine inbR ?_
           refine thenR ?_
           replace h:=Option.some.inj h; subst h
           exact fin_r (by kernel_rfl) rfl
          ·refine run_cF 79 (c44 70) (c44 73) j6_79 hc14 (by kernel_rfl) (by kernel_rfl) ?_
           refine run_k (by kernel_rfl) ?_
           refine thenN ?_
           refine run1z (c44 76) [] [1,5,6,7] [.mp 0 0 0,.i l4_5,.mp 1 0 0,.i y10.pitch] ⟨[(1,.cells 3 [E_GCourse y10]),(0,.cells 2 [E_GInstrument a0])],2⟩ _ (by kernel_rfl) cj0 ?_
           obtain ⟨j7_7,hj7,hl4⟩:=bindE hl4
           refine run_jq (c44 77) (c44 82) (fun (j7_7:Int)=>(zipE [1,5,6,7] [.mp 0 0 0,.i l4_5,.mp 1 0 0,.i j7_7])) (fun (j7_7:Int)=>⟨[(1,.cells 3 [E_GCourse y10]),(0,.cells 2 [E_GInstrument a0])],2⟩) (fun j=>j7_7 = j) (by kernel_rfl) (fun kj7=>?_) ?_
           ·refine run1z (c44 79) [] [1,5,6,7,84] [.mp 0 0 0,.i l4_5,.mp 1 0 0,.i y10.pitch,.bool (decide (0 < y10.frets))] ⟨[(1,.cells 3 [E_GCourse y10]),(0,.cells 2 [E_GInstrument a0])],2⟩ _ (by kernel_rfl) cj0 ?_
            rcases iteE hj7 with ⟨hc15,hj7⟩ | ⟨hc15,hj7⟩
            ·refine run_cT 84 (c44 80) (c44 81) (decide (0 < y10.frets)) hc15 (by kernel_rfl) (by kernel_rfl) ?_
             obtain ⟨y16,hy16,hj7⟩:=bindE hj7
             refine run0z [{},{},{},{},{},{},{ k:=1,x:=AV.i y16 }] [1,5,6,7] [.mp 0 0 0,.i l4_5,.mp 1 0 0,.i (wr (y10.pitch + y16))] ⟨[(1,.cells 3 [E_GCourse y10]),(0,.cells 2 [E_GInstrument a0])],2⟩ _ (by kernel_rfl) (cjC ((ixE hy16).1) (cj1 (mapGet AV.i (ixE hy16).2))) ?_
             replace hj7:=Option.some.inj hj7; subst hj7
             refine thenN ?_
             exact kj7 (wr (y10.pitch + y16)) rfl
            ·refine run_cF 84 (c44 80) (c44 81) (decide (0 < y10.frets)) hc15 (by kernel_rfl) (by kernel_rfl) ?_
             replace hj7:=Option.some.inj hj7; subst hj7
             refine awp_p [1,5,6,7] [1,0] (zipE [1,5,6,7] [.mp 0 0 0,.i l4_5,.mp 1 0 0,.i y10.pitch]) ⟨[(1,.cells 3 [E_GCourse y10]),(0,.cells 2 [E_GInstrument a0])],2⟩ (by kernel_rfl) (?_)
             refine run_k (by kernel_rfl) ?_
             refine thenN ?_
             exact kj7 y10.pitch rfl
           ·rintro _ rfl
            obtain ⟨j8_7,hj8,hl4⟩:=bindE hl4
            refine run_jq (c44 83) (c44 88) (fun (j8_7:Int)=>(zipE [1,5,7] [.mp 0 0 0,.i l4_5,.i j8_7])) (fun (j8_7:Int)=>⟨[(0,.cells 2 [E_GInstrument a0])],2⟩) (fun j=>j8_7 = j) (by kernel_rfl) (fun kj8=>?_) ?_
            ·refine run1z (c44 85) [] [1,5,7,95] [.mp 0 0 0,.i l4_5,.i j7_7,.bool y10.octave] ⟨[(0,.cells 2 [E_GInstrument a0])],2⟩ _ (by kernel_rfl) cj0 ?_
             rcases iteE hj8 with ⟨hc17,hj8⟩ | ⟨hc17,hj8⟩
             ·refine run_cT 95 (c44 86) (c44 87) y10.octave hc17 (by kernel_rfl) (by kernel_rfl) ?_
              refine run0z [] [1,5,7] [.mp 0 0 0,.i l4_5,.i (wr (j7_7 + 12))] ⟨[(0,.cells 2 [E_GInstrument a0])],2⟩ _ (by kernel_rfl) cj0 ?_
              replace hj8:=Option.some.inj hj8; subst hj8
              refine thenN ?_
              exact kj8 (wr (j7_7 + 12)) rfl
             ·refine run_cF 95 (c44 86) (c44 87) y10.octave hc17 (by kernel_rfl) (by kernel_rfl) ?_
              replace hj8:=Option.some.inj hj8; subst hj8
              refine awp_p [1,5,7] [0] (zipE [1,5,7] [.mp 0 0 0,.i l4_5,.i j7_7]) ⟨[(0,.cells 2 [E_GInstrument a0])],2⟩ (by kernel_rfl) (?_)
              refine run_k (by kernel_rfl) ?_
              refine thenN ?_
              exact kj8 j7_7 rfl
            ·rintro _ rfl
             refine run1z (c44 90) [] [1,5,99] [.mp 0 0 0,.i l4_5,.bool (decide (127 < j8_7))] ⟨[(0,.cells 2 [E_GInstrument a0])],2⟩ _ (by kernel_rfl) cj0 ?_
             rcases iteE hl4 with ⟨hc18,hl4⟩ | ⟨hc18,hl4⟩
             ·refine run_cT 99 (c44 91) (c44 94) (decide (127 < j8_7)) hc18 (by kernel_rfl) (by kernel_rfl) ?_
              refine run1z (c44 93) [] [2] [.i 10] ⟨[],2⟩ _ (by kernel_rfl) cj0 ?_
              replace hl4:=Option.some.inj hl4; subst hl4
              have hr:=rl4 _ rfl
              subst hr
              replace h:=elimR h
              refine run_t (by kernel_rfl) ?_
              refine inbR ?_
              refine thenR ?_
              refine ⟨⟨_,rfl⟩,?_⟩
              refine inbR ?_
              refine thenR ?_
              replace h:=Option.some.inj h; subst h
              exact fin_r (by kernel_rfl) rfl
             ·refine run_cF 99 (c44 91) (c44 94) (decide (127 < j8_7)) hc18 (by kernel_rfl) (by kernel_rfl) ?_
              refine run_k (by kernel_rfl) ?_
              refine inbN ?_
              refine thenN ?_
              refine run0z [] [1,5] [.mp 0 0 0,.i (wr (l4_5 + 1))] ⟨[(0,.cells 2 [E_GInstrument a0])],2⟩ _ (by kernel_rfl) cj0 ?_
              replace hl4:=Option.some.inj hl4; subst hl4
              exact ⟨_,rfl,pi [],mkInto (ks:=[1,5]) (ys:=[.mp 0 0 0,.i (wr (l4_5 + 1))]) (by kernel_rfl) (by kernel_rfl) (.k (.mp rfl rfl) (.k (.c rfl) .z)) (.k (x':=.cells 2 [E_GInstrument a0]) (by kernel_rfl) (.cells (.k (.c (cl_GInstrument a0)) .z)) .z)⟩
      ·refine run_cF 53 (c44 52) (c44 53) (decide (l4_5 < (a0.courses.length:Int))) hc9 (by kernel_rfl) (by kernel_rfl) ?_
       replace hl4:=Option.some.inj hl4; subst hl4
       have hr:=rl4 _ rfl
       subst hr
       refine awp_p [] [] (zipE [] []) ⟨[],1⟩ (by kernel_rfl) (?_)
       refine run_e 2 (by kernel_rfl) ?_
       refine thenE ?_
       refine ⟨⟨_,rfl⟩,?_⟩
       refine inbE ?_
       exact kl4 () rfl
     ·rintro ⟨⟩ rfl
      replace h:=elimL h
      refine thenN ?_
      refine run1z (c44 98) [] [2] [.i 0] ⟨[],1⟩ _ (by kernel_rfl) cj0 ?_
      refine run_t (by kernel_rfl) ?_
      replace h:=Option.some.inj h; subst h
      exact fin_r (by kernel_rfl) rfl
def f156 (a0:GInstrument) (a1:GPlace):Option Int:=(ix a0.courses (wr (a1.course - 1))).bind fun y1=>((bif (decide (0 < a1.fret)) then ((ix a0.steps (wr (a1.fret - 1))).bind fun y3=>some (wr (y1.pitch + y3))) else (some y1.pitch)):Option Int).bind fun (j1_5:Int)=>some j1_5
theorem f156_ok (a0:GInstrument) (a1:GPlace) (r:Int) (h:f156 a0 a1 = some r):APure Tryz.prog 156 [E_GInstrument a0,E_GPlace a1] (.i r):=by
 refine apure (clK (cl_GInstrument a0) (clK (cl_GPlace a1) clZ)) rfl ?_
 refine run_f 27 [.tmp 4] (c156 0) (zipE [0,1] [E_GInstrument a0,E_GPlace a1]) (by kernel_rfl) (by kernel_rfl) (by kernel_rfl) rfl ?_
 unfold f156 at h
 refine run1z (c156 2) [] [2,3] [.mp 0 0 0,.mp 1 0 0] ⟨[(1,.cells 2 [E_GPlace a1]),(0,.cells 2 [E_GInstrument a0])],2⟩ _ (by kernel_rfl) cj0 ?_
 obtain ⟨y1,hy1,h⟩:=bindE h
 refine run1z (c156 4) [{},{},{},{},{},{ k:=1,x:=E_GCourse y1 }] [2,3,5] [.mp 0 0 0,.mp 1 0 0,.i y1.pitch] ⟨[(1,.cells 2 [E_GPlace a1]),(0,.cells 2 [E_GInstrument a0])],2⟩ _ (by kernel_rfl) (cjC ((ixE hy1).1) (cj1 (mapGet E_GCourse (ixE hy1).2))) ?_
 obtain ⟨j1_5,hj1,h⟩:=bindE h
 refine run_jq (c156 5) (c156 10) (fun (j1_5:Int)=>(zipE [5] [.i j1_5])) (fun (j1_5:Int)=>⟨[],2⟩) (fun j=>j1_5 = j) (by kernel_rfl) (fun kj1=>?_) ?_
 ·refine run1z (c156 7) [] [2,3,5,16] [.mp 0 0 0,.mp 1 0 0,.i y1.pitch,.bool (decide (0 < a1.fret))] ⟨[(1,.cells 2 [E_GPlace a1]),(0,.cells 2 [E_GInstrument a0])],2⟩ _ (by kernel_rfl) cj0 ?_
  rcases iteE hj1 with ⟨hc2,hj1⟩ | ⟨hc2,hj1⟩
  ·refine run_cT 16 (c156 8) (c156 9) (decide (0 < a1.fret)) hc2 (by kernel_rfl) (by kernel_rfl) ?_
   obtain ⟨y3,hy3,hj1⟩:=bindE hj1
   refine run0z [{},{},{},{},{},{},{ k:=1,x:=AV.i y3 }] [5] [.i (wr (y1.pitch + y3))] ⟨[],2⟩ _ (by kernel_rfl) (cjC ((ixE hy3).1) (cj1 (mapGet AV.i (ixE hy3).2))) ?_
   replace hj1:=Option.some.inj hj1; subst hj1
   refine thenN ?_
   exact kj1 (wr (y1.pitch + y3)) rfl
  ·refine run_cF 16 (c156 8) (c156 9) (decide (0 < a1.fret)) hc2 (by kernel_rfl) (by kernel_rfl) ?_
   replace hj1:=Option.some.inj hj1; subst hj1
   refine awp_p [5] [] (zipE [5] [.i y1.pitch]) ⟨[],2⟩ (by kernel_rfl) (?_)
   refine run_k (by kernel_rfl) ?_
   refine thenN ?_
   exact kj1 y1.pitch rfl
 ·rintro _ rfl
  refine run1z (c156 12) [] [4] [.i j1_5] ⟨[],2⟩ _ (by kernel_rfl) cj0 ?_
  refine run_t (by kernel_rfl) ?_
  replace h:=Option.some.inj h; subst h
  exact fin_r (by kernel_rfl) rfl
def f121 (a0:GInstrument) (a1:Int):Option (((List GPlace)) × Int):=(f44 a0).bind fun r1=>bif (decide (r1 ≠ 0)) then (some (([]:List GPlace),r1)) else (((bif (decide (a1 < 0)) then (some true) else (some (decide (127 < a1)))):Option Bool).bind fun (j1_20:Bool)=>bif j1_20 then (some (([]:List GPlace),10)) else ((loopN (σ:=(List GPlace × Int)) (τ:=(List GPlace)) (fun ((l2_7,l2_8):(List GPlace × Int))=>bif (decide (l2_8 ≤ (a0.courses.length:Int))) then ((loopN (σ:=(List GPlace × Int)) (τ:=(List GPlace)) (fun ((l3_7,l3_9):(List GPlace × Int))=>(ix a0.courses (wr (l2_8 - 1))).bind fun y6=>bif (decide (l3_9 ≤ y6.frets)) then ((((f156 a0 (⟨l2_8,l3_9⟩:GPlace)).bind fun r8=>bif (decide (r8 = a1)) then (need (l3_7.length + 1 ≤ maxElems) <| some (l3_7 ++ [(⟨l2_8,l3_9⟩:GPlace)])) else (some l3_7)):Option (List GPlace)).bind fun (j4_7:(List GPlace))=>some (.inl (j4_7,(wr (l3_9 + 1))))) else (some (.inr l3_7))) FUEL (l2_7,0)).bind fun (l3x_7:(List GPlace))=>some (.inl (l3x_7,(wr (l2_8 + 1))))) else (some (.inr l2_7))) FUEL (([]:List GPlace),1)).bind fun (l2x_7:(List GPlace))=>some (l2x_7,0)))
theorem f121_ok (a0:GInstrument) (a1:Int) (r:(((List GPlace)) × Int)) (h:f121 a0 a1 = some r):APure Tryz.prog 121 [E_GInstrument a0,.i a1] (.tup [.sl false (r.1.map E_GPlace),.i r.2]):=by
 refine apure (clK (cl_GInstrument a0) (clK rfl clZ)) (clK (cleanMap r.1 _ cl_GPlace) (clK rfl clZ)) ?_
 refine run_f 53 [.tmp 4,.tmp 5] (c121 0) (zipE [0,1] [E_GInstrument a0,.i a1]) (by kernel_rfl) (by kernel_rfl) (by kernel_rfl) rfl ?_
 unfold f121 at h
 refine run1z (c121 2) [] [1,2] [.i a1,.mp 0 0 0] ⟨[(0,.cells 2 [E_GInstrument a0])],1⟩ _ (by kernel_rfl) cj0 ?_
 obtain ⟨r1,hr1,h⟩:=bindE h
 refine run1z (c121 4) [{},{ c:=some (.i r1,⟨[(0,.cells 2 [E_GInstrument a0])],1⟩) }] [1,2,6] [.i a1,.mp 0 0 0,.i r1] ⟨[(0,.cells 2 [E_GInstrument a0])],1⟩ _ (by kernel_rfl) (cj1 (f44_ok a0 _ hr1 ⟨[(0,.cells 2 [E_GInstrument a0])],1⟩)) ?_
 refine run_s (c121 5) (c121 12) (by kernel_rfl) ?_
 refine run1z (c121 7) [] [1,2,6,13] [.i a1,.mp 0 0 0,.i r1,.bool (decide (r1 ≠ 0))] ⟨[(0,.cells 2 [E_GInstrument a0])],1⟩ _ (by kernel_rfl) cj0 ?_
 rcases iteE h with ⟨hc2,h⟩ | ⟨hc2,h⟩
 ·refine run_cT 13 (c121 8) (c121 11) (decide (r1 ≠ 0)) hc2 (by kernel_rfl) (by kernel_rfl) ?_
  refine run1z (c121 10) [] [4,5] [.sl true [],.i r1] ⟨[],1⟩ _ (by kernel_rfl) cj0 ?_
  refine run_i 1 [] [4,5] [.sl true [],.i r1] (xs:=[.sl false (([]:List GPlace).map E_GPlace),.i r1]) (S2:=⟨[],1⟩) ?_ (by intro i e; cases e <;> exact Nat.le_of_ble_eq_true rfl) (by kernel_rfl) (by kernel_rfl) (by kernel_rfl) (.k (.s (cleanMap (([]:List GPlace)) _ cl_GPlace)) (.k (.c rfl) .z)) .z
  refine run_t (by kernel_rfl) ?_
  refine thenR ?_
  replace h:=Option.some.inj h; subst h
  exact fin_r (by kernel_rfl) rfl
 ·refine run_cF 13 (c121 8) (c121 11) (decide (r1 ≠ 0)) hc2 (by kernel_rfl) (by kernel_rfl) ?_
  refine run_k (by kernel_rfl) ?_
  refine thenN ?_
  refine run_s (c121 13) (c121 20) (by kernel_rfl) ?_
  obtain ⟨j1_20,hj1,h⟩:=bindE h
  refine run_gq (c121 15) (fun (j1_20:Bool)=>(zipE [1,2,20] [.i a1,.mp 0 0 0,.bool j1_20])) (fun (j1_20:Bool)=>⟨[(0,.cells 2 [E_GInstrument a0])],1⟩) (fun j=>j1_20 = j) (fun kj1=>?_) ?_
  ·rcases iteE hj1 with ⟨hc3,hj1⟩ | ⟨hc3,hj1⟩
   ·replace hj1:=Option.some.inj hj1; subst hj1
    exact run1z (c121 15) [{},{},{},{ g:=false },{ g:=false },{ k:=1,b:=true }] [1,2,20] [.i a1,.mp 0 0 0,.bool true] ⟨[(0,.cells 2 [E_GInstrument a0])],1⟩ _ (by kernel_rfl) (cjC (hc3) (cjC (hc3) (cj1 (hc3)))) (kj1 true rfl)
   ·replace hj1:=Option.some.inj hj1; subst hj1
    exact run1z (c121 15) [{},{},{},{},{},{ k:=1,b:=false }] [1,2,20] [.i a1,.mp 0 0 0,.bool (decide (127 < a1))] ⟨[(0,.cells 2 [E_GInstrument a0])],1⟩ _ (by kernel_rfl) (cjC (hc3) (cjC (hc3) (cj1 (hc3)))) (kj1 (decide (127 < a1)) rfl)
  ·rintro _ rfl
   rcases iteE h with ⟨hc4,h⟩ | ⟨hc4,h⟩
   ·refine run_cT 20 (c121 16) (c121 19) j1_20 hc4 (by kernel_rfl) (by kernel_rfl) ?_
    refine run1z (c121 18) [] [4,5] [.sl true [],.i 10] ⟨[],1⟩ _ (by kernel_rfl) cj0 ?_
    refine run_i 1 [] [4,5] [.sl true [],.i 10] (xs:=[.sl false (([]:List GPlace).map E_GPlace),.i 10]) (S2:=⟨[],1⟩) ?_ (by intro i e; cases e <;> exact Nat.le_of_ble_eq_true rfl) (by kernel_rfl) (by kernel_rfl) (by kernel_rfl) (.k (.s (cleanMap (([]:List GPlace)) _ cl_GPlace)) (.k (.c rfl) .z)) .z
    refine run_t (by kernel_rfl) ?_
    refine thenR ?_
    replace h:=Option.some.inj h; subst h
    exact fin_r (by kernel_rfl) rfl
   ·refine run_cF 20 (c121 16) (c121 19) j1_20 hc4 (by kernel_rfl) (by kernel_rfl) ?_
    refine run_k (by kernel_rfl) ?_
    refine thenN ?_
    refine run1z (c121 22) [] [1,2,7] [.i a1,.mp 0 0 0,.sl true []] ⟨[(0,.cells 2 [E_GInstrument a0])],1⟩ _ (by kernel_rfl) cj0 ?_
    refine run_s (c121 23) (c121 54) (by kernel_rfl) ?_
    refine run1z (c121 25) [] [1,2,7,8] [.i a1,.mp 0 0 0,.sl true [],.i 1] ⟨[(0,.cells 2 [E_GInstrument a0])],1⟩ _ (by kernel_rfl) cj0 ?_
    obtain ⟨l2x_7,hll2x,h⟩:=bindE h
    refine run_tq (fun (l2x_7:(List GPlace))=>(zipE [7] [.ms 1 0 l2x_7.length])) (fun (l2x_7:(List GPlace))=>⟨[(1,.cells 2 (l2x_7.map E_GPlace))],2⟩) (fun j=>l2x_7 = j) (fun kl2=>?_) ?_
    ·refine run_b 0 (c121 26) (by kernel_rfl) ?_
     refine run_l (c121 27) _ hll2x (fun ((l2_7,l2_8):(List GPlace × Int))=>(zipE [1,2,7,8] [.i a1,.mp 0 0 0,.ms 1 0 l2_7.length,.i l2_8])) (fun ((l2_7,l2_8):(List GPlace × Int))=>⟨[(1,.cells 2 (l2_7.map E_GPlace)),(0,.cells 2 [E_GInstrument a0])],2⟩) [(1,1000000)] (by intro i e; cases e <;> exact Nat.le_of_ble_eq_true rfl) (by kernel_rfl) (mkInto (ks:=[1,2,7,8]) (ys:=[.i a1,.mp 0 0 0,.sl true [],.i 1]) (by kernel_rfl) (by kernel_rfl) (.k (.c rfl) (.k (.mp rfl rfl) (.k (.n) (.k (.c rfl) .z)))) (.n rfl rfl rfl (.k (x':=.cells 2 [E_GInstrument a0]) (by kernel_rfl) (.cells (.k (.c (cl_GInstrument a0)) .z)) .z))) ?_
     rintro ⟨l2_7,l2_8⟩ out hl2 rl2
     refine run_s (c121 28) (c121 33) (by kernel_rfl) ?_
     refine run1z (c121 30) [{},{},{},{ k:=1,n:=a0.courses.length }] [1,2,7,8,25] [.i a1,.mp 0 0 0,.ms 1 0 l2_7.length,.i l2_8,.bool (decide (l2_8 ≤ (a0.courses.length:Int)))] ⟨[(1,.cells 2 (l2_7.map E_GPlace)),(0,.cells 2 [E_GInstrument a0])],2⟩ _ (by kernel_rfl) (cj1 (mapLen a0.courses E_GCourse)) ?_
     rcases iteE hl2 with ⟨hc5,hl2⟩ | ⟨hc5,hl2⟩
     ·refine run_cT 25 (c121 31) (c121 32) (decide (l2_8 ≤ (a0.courses.length:Int))) hc5 (by kernel_rfl) (by kernel_rfl) ?_
      refine run_k (by kernel_rfl) ?_
      refine thenN ?_
      refine run_s (c121 34) (c121 53) (by kernel_rfl) ?_
      refine run_b 1 (c121 35) (by kernel_rfl) ?_
      refine run1z (c121 37) [] [1,2,7,8,9] [.i a1,.mp 0 0 0,.ms 1 0 l2_7.length,.i l2_8,.i 0] ⟨[(1,.cells 2 (l2_7.map E_GPlace)),(0,.cells 2 [E_GInstrument a0])],2⟩ _ (by kernel_rfl) cj0 ?_
      obtain ⟨l3x_7,hll3x,hl2⟩:=bindE hl2
      refine run_tq (fun (l3x_7:(List GPlace))=>(zipE [1,2,7,8] [.i a1,.mp 0 0 0,.ms 2 0 l3x_7.length,.i l2_8])) (fun (l3x_7:(List GPlace))=>⟨[(2,.cells 2 (l3x_7.map E_GPlace)),(0,.cells 2 [E_GInstrument a0])],3⟩) (fun j=>l3x_7 = j) (fun kl3=>?_) ?_
      ·refine run_b 2 (c121 38) (by kernel_rfl) ?_
       refine run_l (c121 39) _ hll3x (fun ((l3_7,l3_9):(List GPlace × Int))=>(zipE [1,2,7,8,9] [.i a1,.mp 0 0 0,.ms 2 0 l3_7.length,.i l2_8,.i l3_9])) (fun ((l3_7,l3_9):(List GPlace × Int))=>⟨[(2,.cells 2 (l3_7.map E_GPlace)),(0,.cells 2 [E_GInstrument a0])],3⟩) [(2,1)] (by intro i e; cases e <;> exact Nat.le_of_ble_eq_true rfl) (by kernel_rfl) (mkInto (ks:=[1,2,7,8,9]) (ys:=[.i a1,.mp 0 0 0,.ms 1 0 l2_7.length,.i l2_8,.i 0]) (by kernel_rfl) (by kernel_rfl) (.k (.c rfl) (.k (.mp rfl rfl) (.k (.ms rfl rfl) (.k (.c rfl) (.k (.c rfl) .z))))) (.k (x':=.cells 2 (l2_7.map E_GPlace)) (by kernel_rfl) (.cells (.r (cleanMap _ _ cl_GPlace))) (.k (x':=.cells 2 [E_GInstrument a0]) (by kernel_rfl) (.cells (.k (.c (cl_GInstrument a0)) .z)) .z))) ?_
       rintro ⟨l3_7,l3_9⟩ out hl3 rl3
       refine run_s (c121 40) (c121 45) (by kernel_rfl) ?_
       obtain ⟨y6,hy6,hl3⟩:=bindE hl3
       refine run1z (c121 42) [{},{},{},{},{},{ k:=1,x:=E_GCourse y6 }] [1,2,7,8,9,36] [.i a1,.mp 0 0 0,.ms 2 0 l3_7.length,.i l2_8,.i l3_9,.bool (decide (l3_9 ≤ y6.frets))] ⟨[(2,.cells 2 (l3_7.map E_GPlace)),(0,.cells 2 [E_GInstrument a0])],3⟩ _ (by kernel_rfl) (cjC ((ixE hy6).1) (cj1 (mapGet E_GCourse (ixE hy6).2))) ?_
       rcases iteE hl3 with ⟨hc7,hl3⟩ | ⟨hc7,hl3⟩
       ·refine run_cT 36 (c121 43) (c121 44) (decide (l3_9 ≤ y6.frets)) hc7 (by kernel_rfl) (by kernel_rfl) ?_
        refine run_k (by kernel_rfl) ?_
        refine thenN ?_
        obtain ⟨j4_7,hj4,hl3⟩:=bindE hl3
        refine run_jq (c121 46) (c121 52) (fun (j4_7:(List GPlace))=>(zipE [1,2,7,8,9] [.i a1,.mp 0 0 0,.ms 4 0 j4_7.length,.i l2_8,.i l3_9])) (fun (j4_7:(List GPlace))=>⟨[(4,.cells 2 (j4_7.map E_GPlace)),(0,.cells 2 [E_GInstrument a0])],5⟩) (fun j=>j4_7 = j) (by kernel_rfl) (fun kj4=>?_) ?_
        ·refine run_b 3 (c121 47) (by kernel_rfl) ?_
         obtain ⟨r8,hr8,hj4⟩:=bindE hj4
         refine run1z (c121 49) [{},{},{},{},{ c:=some (.i r8,⟨[(2,.cells 2 (l3_7.map E_GPlace)),(0,.cells 2 [E_GInstrument a0])],3⟩) }] [1,2,7,8,9,45] [.i a1,.mp 0 0 0,.ms 2 0 l3_7.length,.i l2_8,.i l3_9,.bool (decide (r8 = a1))] ⟨[(2,.cells 2 (l3_7.map E_GPlace)),(0,.cells 2 [E_GInstrument a0])],3⟩ _ (by kernel_rfl) (cj1 (f156_ok a0 (⟨l2_8,l3_9⟩:GPlace) _ hr8 ⟨[(2,.cells 2 (l3_7.map E_GPlace)),(0,.cells 2 [E_GInstrument a0])],3⟩)) ?_
         rcases iteE hj4 with ⟨hc9,hj4⟩ | ⟨hc9,hj4⟩
         ·refine run_cT 45 (c121 50) (c121 51) (decide (r8 = a1)) hc9 (by kernel_rfl) (by kernel_rfl) ?_
          obtain ⟨hn10,hj4⟩:=needE hj4
          refine run0z [{},{},{},{},{},{ k:=1,n:=(l3_7 ++ [(⟨l2_8,l3_9⟩:GPlace)]).length,l:=(l3_7 ++ [(⟨l2_8,l3_9⟩:GPlace)]).map E_GPlace }] [1,2,7,8,9] [.i a1,.mp 0 0 0,.ms 3 0 (l3_7 ++ [(⟨l2_8,l3_9⟩:GPlace)]).length,.i l2_8,.i l3_9] ⟨[(3,.cells 2 ((l3_7 ++ [(⟨l2_8,l3_9⟩:GPlace)]).map E_GPlace)),(0,.cells 2 [E_GInstrument a0])],4⟩ _ (by kernel_rfl) (cjC (@List.cons_ne_nil AV (.agg [.i l2_8,.i l3_9]) []) (cjC (mLe l3_7 E_GPlace) (cjC (hn10) (cjC (lenA l3_7 ([(⟨l2_8,l3_9⟩:GPlace)]:List GPlace)) (cjC (appA l3_7 ([(⟨l2_8,l3_9⟩:GPlace)]:List GPlace) E_GPlace) (cj1 (fitsOne (P:=Tryz.prog) (t:=158) (x:=.agg [.i l2_8,.i l3_9]) (r:=[]) (by kernel_rfl)))))))) ?_
          replace hj4:=Option.some.inj hj4; subst hj4
          refine inbN ?_
          refine thenN ?_
          exact run_i 4 [(4,3)] [1,2,7,8,9] [.i a1,.mp 0 0 0,.ms 3 0 (l3_7 ++ [(⟨l2_8,l3_9⟩:GPlace)]).length,.i l2_8,.i l3_9] (kj4 (l3_7 ++ [(⟨l2_8,l3_9⟩:GPlace)]) rfl) (by intro i e; cases e <;> exact Nat.le_of_ble_eq_true rfl) (by kernel_rfl) (by kernel_rfl) (by kernel_rfl) (.k (.c rfl) (.k (.mp rfl rfl) (.k (.ms rfl rfl) (.k (.c rfl) (.k (.c rfl) .z))))) (.k (x':=.cells 2 ((l3_7 ++ [(⟨l2_8,l3_9⟩:GPlace)]).map E_GPlace)) (by kernel_rfl) (.cells (.r (cleanMap _ _ cl_GPlace))) (.k (x':=.cells 2 [E_GInstrument a0]) (by kernel_rfl) (.cells (.k (.c (cl_GInstrument a0)) .z)) .z))
         ·refine run_cF 45 (c121 50) (c121 51) (decide (r8 = a1)) hc9 (by kernel_rfl) (by kernel_rfl) ?_
          replace hj4:=Option.some.inj hj4; subst hj4
          refine run_i 4 [(4,2)] [1,2,7,8,9] [.i a1,.mp 0 0 0,.ms 2 0 l3_7.length,.i l2_8,.i l3_9] (xs:=[.i a1,.mp 0 0 0,.ms 4 0 l3_7.length,.i l2_8,.i l3_9]) (S2:=⟨[(4,.cells 2 (l3_7.map E_GPlace)),(0,.cells 2 [E_GInstrument a0])],5⟩) ?_ (by intro i e; cases e <;> exact Nat.le_of_ble_eq_true rfl) (by kernel_rfl) (by kernel_rfl) (by kernel_rfl) (.k (.c rfl) (.k (.mp rfl rfl) (.k (.ms rfl rfl) (.k (.c rfl) (.k (.c rfl) .z))))) (.k (x':=.cells 2 (l3_7.map E_GPlace)) (by kernel_rfl) (.cells (.r (cleanMap _ _ cl_GPlace))) (.k (x':=.cells 2 [E_GInstrument a0]) (by kernel_rfl) (.cells (.k (.c (cl_GInstrument a0)) .z)) .z))
          refine run_k (by kernel_rfl) ?_
          refine inbN ?_
          refine thenN ?_
          exact kj4 l3_7 rfl
        ·rintro _ rfl
         refine run0z [] [1,2,7,8,9] [.i a1,.mp 0 0 0,.ms 4 0 j4_7.length,.i l2_8,.i (wr (l3_9 + 1))] ⟨[(4,.cells 2 (j4_7.map E_GPlace)),(0,.cells 2 [E_GInstrument a0])],5⟩ _ (by kernel_rfl) cj0 ?_
         replace hl3:=Option.some.inj hl3; subst hl3
         exact ⟨_,rfl,pi [(2,4)],mkInto (ks:=[1,2,7,8,9]) (ys:=[.i a1,.mp 0 0 0,.ms 4 0 j4_7.length,.i l2_8,.i (wr (l3_9 + 1))]) (by kernel_rfl) (by kernel_rfl) (.k (.c rfl) (.k (.mp rfl rfl) (.k (.ms rfl rfl) (.k (.c rfl) (.k (.c rfl) .z))))) (.k (x':=.cells 2 (j4_7.map E_GPlace)) (by kernel_rfl) (.cells (.r (cleanMap _ _ cl_GPlace))) (.k (x':=.cells 2 [E_GInstrument a0]) (by kernel_rfl) (.cells (.k (.c (cl_GInstrument a0)) .z)) .z))⟩
       ·refine run_cF 36 (c121 43) (c121 44) (decide (l3_9 ≤ y6.frets)) hc7 (by kernel_rfl) (by kernel_rfl) ?_
        replace hl3:=Option.some.inj hl3; subst hl3
        have hr:=rl3 _ rfl
        subst hr
        refine awp_p [1,2,7,8] [2,0] (zipE [1,2,7,8] [.i a1,.mp 0 0 0,.ms 2 0 l3_7.length,.i l2_8]) ⟨[(2,.cells 2 (l3_7.map E_GPlace)),(0,.cells 2 [E_GInstrument a0])],3⟩ (by kernel_rfl) (?_)
        refine run_e 2 (by kernel_rfl) ?_
        refine thenE ?_
        refine ⟨⟨_,rfl⟩,?_⟩
        refine inbE ?_
        exact kl3 l3_7 rfl
      ·rintro _ rfl
       refine inbN ?_
       refine thenN ?_
       refine run0z [] [1,2,7,8] [.i a1,.mp 0 0 0,.ms 2 0 l3x_7.length,.i (wr (l2_8 + 1))] ⟨[(2,.cells 2 (l3x_7.map E_GPlace)),(0,.cells 2 [E_GInstrument a0])],3⟩ _ (by kernel_rfl) cj0 ?_
       replace hl2:=Option.some.inj hl2; subst hl2
       exact ⟨_,rfl,pi [(1,2)],mkInto (ks:=[1,2,7,8]) (ys:=[.i a1,.mp 0 0 0,.ms 2 0 l3x_7.length,.i (wr (l2_8 + 1))]) (by kernel_rfl) (by kernel_rfl) (.k (.c rfl) (.k (.mp rfl rfl) (.k (.ms rfl rfl) (.k (.c rfl) .z)))) (.k (x':=.cells 2 (l3x_7.map E_GPlace)) (by kernel_rfl) (.cells (.r (cleanMap _ _ cl_GPlace))) (.k (x':=.cells 2 [E_GInstrument a0]) (by kernel_rfl) (.cells (.k (.c (cl_GInstrument a0)) .z)) .z))⟩
     ·refine run_cF 25 (c121 31) (c121 32) (decide (l2_8 ≤ (a0.courses.length:Int))) hc5 (by kernel_rfl) (by kernel_rfl) ?_
      replace hl2:=Option.some.inj hl2; subst hl2
      have hr:=rl2 _ rfl
      subst hr
      refine awp_p [7] [1] (zipE [7] [.ms 1 0 l2_7.length]) ⟨[(1,.cells 2 (l2_7.map E_GPlace))],2⟩ (by kernel_rfl) (?_)
      refine run_e 0 (by kernel_rfl) ?_
      refine thenE ?_
      refine ⟨⟨_,rfl⟩,?_⟩
      refine inbE ?_
      exact kl2 l2_7 rfl
    ·rintro _ rfl
     refine thenN ?_
     refine run1z (c121 56) [] [4,5] [.ms 1 0 l2x_7.length,.i 0] ⟨[(1,.cells 2 (l2x_7.map E_GPlace))],2⟩ _ (by kernel_rfl) cj0 ?_
     refine run_z 1 2 (l2x_7.map E_GPlace) [4,5] [.ms 1 0 l2x_7.length,.i 0] (xs:=[.sl false (l2x_7.map E_GPlace),.i 0]) (S2:=⟨[],2⟩) ?_ (by kernel_rfl) (by kernel_rfl) (.k (.m (mLe l2x_7 E_GPlace) (mapAll l2x_7 E_GPlace)) (.k (.r _) .z)) .z rfl rfl
     refine run_t (by kernel_rfl) ?_
     replace h:=Option.some.inj h; subst h
     exact fin_r (by kernel_rfl) rfl
def f87 (a0:GInstrument) (a1:Int):Option ((List GPlace)):=(f121 a0 a1).bind fun r1=>some r1.1
theorem f87_ok (a0:GInstrument) (a1:Int) (r:((List GPlace))) (h:f87 a0 a1 = some r):APure Tryz.prog 87 [E_GInstrument a0,.i a1] (.sl false (r.map E_GPlace)):=by
 refine apure (clK (cl_GInstrument a0) (clK rfl clZ)) (cleanMap r _ cl_GPlace) ?_
 refine run_f 14 [.tmp 4] (c87 0) (zipE [0,1] [E_GInstrument a0,.i a1]) (by kernel_rfl) (by kernel_rfl) (by kernel_rfl) rfl ?_
 unfold f87 at h
 refine run1z (c87 2) [] [1,2] [.i a1,.mp 0 0 0] ⟨[(0,.cells 2 [E_GInstrument a0])],1⟩ _ (by kernel_rfl) cj0 ?_
 obtain ⟨r1,hr1,h⟩:=bindE h
 refine run1z (c87 4) [{},{},{ c:=some (.tup [.sl false (r1.1.map E_GPlace),.i r1.2],⟨[(0,.cells 2 [E_GInstrument a0])],1⟩) }] [5] [.sl false (r1.1.map E_GPlace)] ⟨[],1⟩ _ (by kernel_rfl) (cj1 (f121_ok a0 a1 _ hr1 ⟨[(0,.cells 2 [E_GInstrument a0])],1⟩)) ?_
 refine run1z (c87 6) [] [4] [.sl false (r1.1.map E_GPlace)] ⟨[],1⟩ _ (by kernel_rfl) cj0 ?_
 refine run_t (by kernel_rfl) ?_
 replace h:=Option.some.inj h; subst h
 exact fin_r (by kernel_rfl) rfl
def f45 (a0:List (List GTone)) (a1:GInstrument) (a2:Int):Option Int:=(loopN (σ:=(Int × Int)) (τ:=Int) (fun ((l1_7,l1_8):(Int × Int))=>bif (decide (l1_8 < (a0.length:Int))) then ((loopN (σ:=(Int × Int)) (τ:=Int) (fun ((l2_7,l2_9):(Int × Int))=>(ix a0 l1_8).bind fun y2=>bif (decide (l2_9 < (y2.length:Int))) then ((((ix y2 l2_9).bind fun y4=>(f87 a1 (wr (y4.pitch + a2))).bind fun r5=>bif (decide ((r5.length:Int) = 0)) then (some (wr (l2_7 + 1))) else (some l2_7)):Option Int).bind fun (j3_7:Int)=>some (.inl (j3_7,(wr (l2_9 + 1))))) else (some (.inr l2_7))) FUEL (l1_7,0)).bind fun (l2x_7:Int)=>some (.inl (l2x_7,(wr (l1_8 + 1))))) else (some (.inr l1_7))) FUEL (0,0)).bind fun (l1x_7:Int)=>some l1x_7
theorem f45_ok (a0:List (List GTone)) (a1:GInstrument) (a2:Int) (r:Int) (h:f45 a0 a1 a2 = some r):APure Tryz.prog 45 [.sl false (a0.map (SL E_GTone)),E_GInstrument a1,.i a2] (.i r):=by
 refine apure (clK (cleanMap a0 _ (cl_SL cl_GTone)) (clK (cl_GInstrument a1) (clK rfl clZ))) rfl ?_
 refine run_f 42 [.tmp 6] (c45 0) (zipE [0,1,2] [.sl false (a0.map (SL E_GTone)),E_GInstrument a1,.i a2]) (by kernel_rfl) (by kernel_rfl) (by kernel_rfl) rfl ?_
 unfold f45 at h
 refine run1z (c45 2) [] [0,2,4] [.sl false (a0.map (SL E_GTone)),.i a2,.mp 0 0 0] ⟨[(0,.cells 2 [E_GInstrument a1])],1⟩ _ (by kernel_rfl) cj0 ?_
 refine run1z (c45 4) [] [0,2,4,7] [.sl false (a0.map (SL E_GTone)),.i a2,.mp 0 0 0,.i 0] ⟨[(0,.cells 2 [E_GInstrument a1])],1⟩ _ (by kernel_rfl) cj0 ?_
 refine run_s (c45 5) (c45 36) (by kernel_rfl) ?_
 refine run1z (c45 7) [] [0,2,4,7,8] [.sl false (a0.map (SL E_GTone)),.i a2,.mp 0 0 0,.i 0,.i 0] ⟨[(0,.cells 2 [E_GInstrument a1])],1⟩ _ (by kernel_rfl) cj0 ?_
 obtain ⟨l1x_7,hll1x,h⟩:=bindE h
 refine run_tq (fun (l1x_7:Int)=>(zipE [7] [.i l1x_7])) (fun (l1x_7:Int)=>⟨[],1⟩) (fun j=>l1x_7 = j) (fun kl1=>?_) ?_
 ·refine run_b 0 (c45 8) (by kernel_rfl) ?_
  refine run_l (c45 9) _ hll1x (fun ((l1_7,l1_8):(Int × Int))=>(zipE [0,2,4,7,8] [.sl false (a0.map (SL E_GTone)),.i a2,.mp 0 0 0,.i l1_7,.i l1_8])) (fun ((l1_7,l1_8):(Int × Int))=>⟨[(0,.cells 2 [E_GInstrument a1])],1⟩) [] (by intro i e; cases e <;> exact Nat.le_of_ble_eq_true rfl) (by kernel_rfl) (mkInto (ks:=[0,2,4,7,8]) (ys:=[.sl false (a0.map (SL E_GTone)),.i a2,.mp 0 0 0,.i 0,.i 0]) (by kernel_rfl) (by kernel_rfl) (.k (.c (cleanMap _ _ (cl_SL cl_GTone))) (.k (.c rfl) (.k (.mp rfl rfl) (.k (.c rfl) (.k (.c rfl) .z))))) (.k (x':=.cells 2 [E_GInstrument a1]) (by kernel_rfl) (.cells (.k (.c (cl_GInstrument a1)) .z)) .z)) ?_
  rintro ⟨l1_7,l1_8⟩ out hl1 rl1
  refine run_s (c45 10) (c45 15) (by kernel_rfl) ?_
  refine run1z (c45 12) [{},{},{ k:=1,n:=a0.length }] [0,2,4,7,8,13] [.sl false (a0.map (SL E_GTone)),.i a2,.mp 0 0 0,.i l1_7,.i l1_8,.bool (decide (l1_8 < (a0.length:Int)))] ⟨[(0,.cells 2 [E_GInstrument a1])],1⟩ _ (by kernel_rfl) (cj1 (mapLen a0 (SL E_GTone))) ?_
  rcases iteE hl1 with ⟨hc1,hl1⟩ | ⟨hc1,hl1⟩
  ·refine run_cT 13 (c45 13) (c45 14) (decide (l1_8 < (a0.length:Int))) hc1 (by kernel_rfl) (by kernel_rfl) ?_
   refine run_k (by kernel_rfl) ?_
   refine thenN ?_
   refine run_s (c45 16) (c45 35) (by kernel_rfl) ?_
   refine run_b 1 (c45 17) (by kernel_rfl) ?_
   refine run1z (c45 19) [] [0,2,4,7,8,9] [.sl false (a0.map (SL E_GTone)),.i a2,.mp 0 0 0,.i l1_7,.i l1_8,.i 0] ⟨[(0,.cells 2 [E_GInstrument a1])],1⟩ _ (by kernel_rfl) cj0 ?_
   obtain ⟨l2x_7,hll2x,hl1⟩:=bindE hl1
   refine run_tq (fun (l2x_7:Int)=>(zipE [0,2,4,7,8] [.sl false (a0.map (SL E_GTone)),.i a2,.mp 0 0 0,.i l2x_7,.i l1_8])) (fun (l2x_7:Int)=>⟨[(0,.cells 2 [E_GInstrument a1])],1⟩) (fun j=>l2x_7 = j) (fun kl2=>?_) ?_
   ·refine run_b 2 (c45 20) (by kernel_rfl) ?_
    refine run_l (c45 21) _ hll2x (fun ((l2_7,l2_9):(Int × Int))=>(zipE [0,2,4,7,8,9] [.sl false (a0.map (SL E_GTone)),.i a2,.mp 0 0 0,.i l2_7,.i l1_8,.i l2_9])) (fun ((l2_7,l2_9):(Int × Int))=>⟨[(0,.cells 2 [E_GInstrument a1])],1⟩) [] (by intro i e; cases e <;> exact Nat.le_of_ble_eq_true rfl) (by kernel_rfl) (mkInto (ks:=[0,2,4,7,8,9]) (ys:=[.sl false (a0.map (SL E_GTone)),.i a2,.mp 0 0 0,.i l1_7,.i l1_8,.i 0]) (by kernel_rfl) (by kernel_rfl) (.k (.c (cleanMap _ _ (cl_SL cl_GTone))) (.k (.c rfl) (.k (.mp rfl rfl) (.k (.c rfl) (.k (.c rfl) (.k (.c rfl) .z)))))) (.k (x':=.cells 2 [E_GInstrument a1]) (by kernel_rfl) (.cells (.k (.c (cl_GInstrument a1)) .z)) .z)) ?_
    rintro ⟨l2_7,l2_9⟩ out hl2 rl2
    refine run_s (c45 22) (c45 27) (by kernel_rfl) ?_
    obtain ⟨y2,hy2,hl2⟩:=bindE hl2
    refine run1z (c45 24) [{},{},{},{ k:=1,x:=(SL E_GTone) y2 },{},{ k:=1,n:=y2.length }] [0,2,4,7,8,9,22] [.sl false (a0.map (SL E_GTone)),.i a2,.mp 0 0 0,.i l2_7,.i l1_8,.i l2_9,.bool (decide (l2_9 < (y2.length:Int)))] ⟨[(0,.cells 2 [E_GInstrument a1])],1⟩ _ (by kernel_rfl) (cjC ((ixE hy2).1) (cjC (mapGet (SL E_GTone) (ixE hy2).2) (cj1 (mapLen y2 E_GTone)))) ?_
    rcases iteE hl2 with ⟨hc3,hl2⟩ | ⟨hc3,hl2⟩
    ·refine run_cT 22 (c45 25) (c45 26) (decide (l2_9 < (y2.length:Int))) hc3 (by kernel_rfl) (by kernel_rfl) ?_
     refine run_k (by kernel_rfl) ?_
     refine thenN ?_
     obtain ⟨j3_7,hj3,hl2⟩:=bindE hl2
     refine run_jq (c45 28) (c45 34) (fun (j3_7:Int)=>(zipE [0,2,4,7,8,9] [.sl false (a0.map (SL E_GTone)),.i a2,.mp 0 0 0,.i j3_7,.i l1_8,.i l2_9])) (fun (j3_7:Int)=>⟨[(0,.cells 2 [E_GInstrument a1])],1⟩) (fun j=>j3_7 = j) (by kernel_rfl) (fun kj3=>?_) ?_
     ·refine run_b 3 (c45 29) (by kernel_rfl) ?_
      obtain ⟨y4,hy4,hj3⟩:=bindE hj3
      obtain ⟨r5,hr5,hj3⟩:=bindE hj3
      refine yun1z (c45 31) [[],[],[],[1,2],[1,2,3],[],[1,2,3,4,5],[1,2,3,4,5,6],[1,2,3,4,5,6,7],[],[1,2,3,4,5,6,7,8,9],[0,1,2,3,4,5,6,7,8,9,10],[0,1,2,3,4,5,6,7,8,9,10,11],[0,1,2,3,4,5,6,7,8,9,10,11,12]] [.light 0 false,.light 1 false,.light 2 false,.light 3 false,.light 4 false,.light 5 false,.light 6 false,.light 7 false,.light 8 false,.light 9 false,.light 10 false,.heavy 11 [],.light 12 false,.light 13 false] [{},{},{},{ k:=1,x:=(SL E_GTone) y2 },{},{},{ k:=1,x:=E_GTone y4 },{},{},{},{},{ c:=some (.sl false (r5.map E_GPlace),⟨[(0,.cells 2 [E_GInstrument a1])],1⟩) },{ k:=1,n:=r5.length }] [0,2,4,7,8,9,38] [.sl false (a0.map (SL E_GTone)),.i a2,.mp 0 0 0,.i l2_7,.i l1_8,.i l2_9,.bool (decide ((r5.length:Int) = 0))] ⟨[(0,.cells 2 [E_GInstrument a1])],1⟩ _ (by kernel_rfl) (cjC ((ixE hy2).1) (cjC (mapGet (SL E_GTone) (ixE hy2).2) (cjC ((ixE hy4).1) (cjC (mapGet E_GTone (ixE hy4).2) (cjC (f87_ok a1 (wr (y4.pitch + a2)) _ hr5 ⟨[(0,.cells 2 [E_GInstrument a1])],1⟩) (cj1 (mapLen r5 E_GPlace))))))) ?_
      rcases iteE hj3 with ⟨hc6,hj3⟩ | ⟨hc6,hj3⟩
      ·refine run_cT 38 (c45 32) (c45 33) (decide ((r5.length:Int) = 0)) hc6 (by kernel_rfl) (by kernel_rfl) ?_
       refine run0z [] [0,2,4,7,8,9] [.sl false (a0.map (SL E_GTone)),.i a2,.mp 0 0 0,.i (wr (l2_7 + 1)),.i l1_8,.i l2_9] ⟨[(0,.cells 2 [E_GInstrument a1])],1⟩ _ (by kernel_rfl) cj0 ?_
       replace hj3:=Option.some.inj hj3; subst hj3
       refine inbN ?_
       refine thenN ?_
       exact kj3 (wr (l2_7 + 1)) rfl
      ·refine run_cF 38 (c45 32) (c45 33) (decide ((r5.length:Int) = 0)) hc6 (by kernel_rfl) (by kernel_rfl) ?_
       replace hj3:=Option.some.inj hj3; subst hj3
       refine awp_p [0,2,4,7,8,9] [0] (zipE [0,2,4,7,8,9] [.sl false (a0.map (SL E_GTone)),.i a2,.mp 0 0 0,.i l2_7,.i l1_8,.i l2_9]) ⟨[(0,.cells 2 [E_GInstrument a1])],1⟩ (by kernel_rfl) (?_)
       refine run_k (by kernel_rfl) ?_
       refine inbN ?_
       refine thenN ?_
       exact kj3 l2_7 rfl
     ·rintro _ rfl
      refine run0z [] [0,2,4,7,8,9] [.sl false (a0.map (SL E_GTone)),.i a2,.mp 0 0 0,.i j3_7,.i l1_8,.i (wr (l2_9 + 1))] ⟨[(0,.cells 2 [E_GInstrument a1])],1⟩ _ (by kernel_rfl) cj0 ?_
      replace hl2:=Option.some.inj hl2; subst hl2
      exact ⟨_,rfl,pi [],mkInto (ks:=[0,2,4,7,8,9]) (ys:=[.sl false (a0.map (SL E_GTone)),.i a2,.mp 0 0 0,.i j3_7,.i l1_8,.i (wr (l2_9 + 1))]) (by kernel_rfl) (by kernel_rfl) (.k (.c (cleanMap _ _ (cl_SL cl_GTone))) (.k (.c rfl) (.k (.mp rfl rfl) (.k (.c rfl) (.k (.c rfl) (.k (.c rfl) .z)))))) (.k (x':=.cells 2 [E_GInstrument a1]) (by kernel_rfl) (.cells (.k (.c (cl_GInstrument a1)) .z)) .z)⟩
    ·refine run_cF 22 (c45 25) (c45 26) (decide (l2_9 < (y2.length:Int))) hc3 (by kernel_rfl) (by kernel_rfl) ?_
     replace hl2:=Option.some.inj hl2; subst hl2
     have hr:=rl2 _ rfl
     subst hr
     refine awp_p [0,2,4,7,8] [0] (zipE [0,2,4,7,8] [.sl false (a0.map (SL E_GTone)),.i a2,.mp 0 0 0,.i l2_7,.i l1_8]) ⟨[(0,.cells 2 [E_GInstrument a1])],1⟩ (by kernel_rfl) (?_)
     refine run_e 2 (by kernel_rfl) ?_
     refine thenE ?_
     refine ⟨⟨_,rfl⟩,?_⟩
     refine inbE ?_
     exact kl2 l2_7 rfl
   ·rintro _ rfl
    refine inbN ?_
    refine thenN ?_
    refine run0z [] [0,2,4,7,8] [.sl false (a0.map (SL E_GTone)),.i a2,.mp 0 0 0,.i l2x_7,.i (wr (l1_8 + 1))] ⟨[(0,.cells 2 [E_GInstrument a1])],1⟩ _ (by kernel_rfl) cj0 ?_
    replace hl1:=Option.some.inj hl1; subst hl1
    exact ⟨_,rfl,pi [],mkInto (ks:=[0,2,4,7,8]) (ys:=[.sl false (a0.map (SL E_GTone)),.i a2,.mp 0 0 0,.i l2x_7,.i (wr (l1_8 + 1))]) (by kernel_rfl) (by kernel_rfl) (.k (.c (cleanMap _ _ (cl_SL cl_GTone))) (.k (.c rfl) (.k (.mp rfl rfl) (.k (.c rfl) (.k (.c rfl) .z))))) (.k (x':=.cells 2 [E_GInstrument a1]) (by kernel_rfl) (.cells (.k (.c (cl_GInstrument a1)) .z)) .z)⟩
  ·refine run_cF 13 (c45 13) (c45 14) (decide (l1_8 < (a0.length:Int))) hc1 (by kernel_rfl) (by kernel_rfl) ?_
   replace hl1:=Option.some.inj hl1; subst hl1
   have hr:=rl1 _ rfl
   subst hr
   refine awp_p [7] [] (zipE [7] [.i l1_7]) ⟨[],1⟩ (by kernel_rfl) (?_)
   refine run_e 0 (by kernel_rfl) ?_
   refine thenE ?_
   refine ⟨⟨_,rfl⟩,?_⟩
   refine inbE ?_
   exact kl1 l1_7 rfl
 ·rintro _ rfl
  refine thenN ?_
  refine run1z (c45 38) [] [6] [.i l1x_7] ⟨[],1⟩ _ (by kernel_rfl) cj0 ?_
  refine run_t (by kernel_rfl) ?_
  replace h:=Option.some.inj h; subst h
  exact fin_r (by kernel_rfl) rfl
end Go.Proofs.YtplpfocfcppajaaGreat
