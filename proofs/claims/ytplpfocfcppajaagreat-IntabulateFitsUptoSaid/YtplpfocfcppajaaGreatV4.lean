/-
 Functions of the program as Lean functions,and the walks. Written by a program of ours.
-/
import Derived.Test.YtplpfocfcppajaaGreatV6
namespace Go.Proofs.YtplpfocfcppajaaGreat
open Go Go.Am
set_option maxRecDepth 100000
set_option linter.all false
noncomputable def c12 (k:Nat):Code:=nthC (subs (Tryz.f12.body.getD .skip)) k
noncomputable def c119 (k:Nat):Code:=nthC (subs (Tryz.f119.body.getD .skip)) k
noncomputable def c85 (k:Nat):Code:=nthC (subs (Tryz.f85.body.getD .skip)) k
noncomputable def c42 (k:Nat):Code:=nthC (subs (Tryz.f42.body.getD .skip)) k
noncomputable def c120 (k:Nat):Code:=nthC (subs (Tryz.f120.body.getD .skip)) k
noncomputable def c86 (k:Nat):Code:=nthC (subs (Tryz.f86.body.getD .skip)) k
noncomputable def c43 (k:Nat):Code:=nthC (subs (Tryz.f43.body.getD .skip)) k
noncomputable def c14 (k:Nat):Code:=nthC (subs (Tryz.f14.body.getD .skip)) k
def f12 (a0:List (List GTone)):Option Bool:=(loopN (σ:=(Int × Int)) (τ:=Int) (fun ((l1_3,l1_4):(Int × Int))=>bif (decide (l1_4 < (a0.length:Int))) then ((ix a0 l1_4).bind fun y2=>some (.inl ((wr (l1_3 + (y2.length:Int))),(wr (l1_4 + 1))))) else (some (.inr l1_3))) FUEL (0,0)).bind fun (l1x_3:Int)=>((bif (decide (l1x_3 ≤ 64)) then (some true) else ((f38 a0).bind fun r4=>some (decide (r4 ≠ 0)))):Option Bool).bind fun (j2_2:Bool)=>some j2_2
theorem f12_ok (a0:List (List GTone)) (r:Bool) (h:f12 a0 = some r):APure Tryz.prog 12 [.sl false (a0.map (SL E_GTone))] (.bool r):=by
 refine apure (clK (cleanMap a0 _ (cl_SL cl_GTone)) clZ) rfl ?_
 refine run_f 25 [.tmp 2] (c12 0) (zipE [0] [.sl false (a0.map (SL E_GTone))]) (by kernel_rfl) (by kernel_rfl) (by kernel_rfl) rfl ?_
 unfold f12 at h
 refine run1z (c12 2) [] [0] [.sl false (a0.map (SL E_GTone))] ⟨[],0⟩ _ (by kernel_rfl) cj0 ?_
 refine run1z (c12 4) [] [0,3] [.sl false (a0.map (SL E_GTone)),.i 0] ⟨[],0⟩ _ (by kernel_rfl) cj0 ?_
 refine run_s (c12 5) (c12 19) (by kernel_rfl) ?_
 refine run1z (c12 7) [] [0,3,4] [.sl false (a0.map (SL E_GTone)),.i 0,.i 0] ⟨[],0⟩ _ (by kernel_rfl) cj0 ?_
 obtain ⟨l1x_3,hll1x,h⟩:=bindE h
 refine run_tq (fun (l1x_3:Int)=>(zipE [0,3] [.sl false (a0.map (SL E_GTone)),.i l1x_3])) (fun (l1x_3:Int)=>⟨[],0⟩) (fun j=>l1x_3 = j) (fun kl1=>?_) ?_
 ·refine run_b 0 (c12 8) (by kernel_rfl) ?_
  refine run_l (c12 9) _ hll1x (fun ((l1_3,l1_4):(Int × Int))=>(zipE [0,3,4] [.sl false (a0.map (SL E_GTone)),.i l1_3,.i l1_4])) (fun ((l1_3,l1_4):(Int × Int))=>⟨[],0⟩) [] (by intro i e; cases e <;> exact Nat.le_of_ble_eq_true rfl) (by kernel_rfl) (mkInto (ks:=[0,3,4]) (ys:=[.sl false (a0.map (SL E_GTone)),.i 0,.i 0]) (by kernel_rfl) (by kernel_rfl) (.k (.c (cleanMap _ _ (cl_SL cl_GTone))) (.k (.c rfl) (.k (.c rfl) .z))) .z) ?_
  rintro ⟨l1_3,l1_4⟩ out hl1 rl1
  refine run_s (c12 10) (c12 15) (by kernel_rfl) ?_
  refine run1z (c12 12) [{},{},{ k:=1,n:=a0.length }] [0,3,4,8] [.sl false (a0.map (SL E_GTone)),.i l1_3,.i l1_4,.bool (decide (l1_4 < (a0.length:Int)))] ⟨[],0⟩ _ (by kernel_rfl) (cj1 (mapLen a0 (SL E_GTone))) ?_
  rcases iteE hl1 with ⟨hc1,hl1⟩ | ⟨hc1,hl1⟩
  ·refine run_cT 8 (c12 13) (c12 14) (decide (l1_4 < (a0.length:Int))) hc1 (by kernel_rfl) (by kernel_rfl) ?_
   refine run_k (by kernel_rfl) ?_
   refine thenN ?_
   refine run_s (c12 16) (c12 18) (by kernel_rfl) ?_
   refine run_b 1 (c12 17) (by kernel_rfl) ?_
   obtain ⟨y2,hy2,hl1⟩:=bindE hl1
   refine run0z [{},{},{},{ k:=1,x:=(SL E_GTone) y2 },{},{ k:=1,n:=y2.length }] [0,3,4] [.sl false (a0.map (SL E_GTone)),.i (wr (l1_3 + (y2.length:Int))),.i l1_4] ⟨[],0⟩ _ (by kernel_rfl) (cjC ((ixE hy2).1) (cjC (mapGet (SL E_GTone) (ixE hy2).2) (cj1 (mapLen y2 E_GTone)))) ?_
   refine inbN ?_
   refine thenN ?_
   refine run0z [] [0,3,4] [.sl false (a0.map (SL E_GTone)),.i (wr (l1_3 + (y2.length:Int))),.i (wr (l1_4 + 1))] ⟨[],0⟩ _ (by kernel_rfl) cj0 ?_
   replace hl1:=Option.some.inj hl1; subst hl1
   exact ⟨_,rfl,pi [],mkInto (ks:=[0,3,4]) (ys:=[.sl false (a0.map (SL E_GTone)),.i (wr (l1_3 + (y2.length:Int))),.i (wr (l1_4 + 1))]) (by kernel_rfl) (by kernel_rfl) (.k (.c (cleanMap _ _ (cl_SL cl_GTone))) (.k (.c rfl) (.k (.c rfl) .z))) .z⟩
  ·refine run_cF 8 (c12 13) (c12 14) (decide (l1_4 < (a0.length:Int))) hc1 (by kernel_rfl) (by kernel_rfl) ?_
   replace hl1:=Option.some.inj hl1; subst hl1
   have hr:=rl1 _ rfl
   subst hr
   refine awp_p [0,3] [] (zipE [0,3] [.sl false (a0.map (SL E_GTone)),.i l1_3]) ⟨[],0⟩ (by kernel_rfl) (?_)
   refine run_e 0 (by kernel_rfl) ?_
   refine thenE ?_
   refine ⟨⟨_,rfl⟩,?_⟩
   refine inbE ?_
   exact kl1 l1_3 rfl
 ·rintro _ rfl
  refine thenN ?_
  obtain ⟨j2_2,hj2,h⟩:=bindE h
  refine run_gq (c12 21) (fun (j2_2:Bool)=>(zipE [2] [.bool j2_2])) (fun (j2_2:Bool)=>⟨[],0⟩) (fun j=>j2_2 = j) (fun kj2=>?_) ?_
  ·rcases iteE hj2 with ⟨hc3,hj2⟩ | ⟨hc3,hj2⟩
   ·replace hj2:=Option.some.inj hj2; subst hj2
    exact run1z (c12 21) [{},{},{},{ g:=false },{ g:=false },{ g:=false },{ k:=1,b:=true }] [2] [.bool true] ⟨[],0⟩ _ (by kernel_rfl) (cjC (hc3) (cjC (hc3) (cjC (hc3) (cj1 (hc3))))) (kj2 true rfl)
   ·obtain ⟨r4,hr4,hj2⟩:=bindE hj2
    replace hj2:=Option.some.inj hj2; subst hj2
    exact run1z (c12 21) [{},{},{},{},{ c:=some (.i r4,⟨[],0⟩) },{},{ k:=1,b:=false }] [2] [.bool (decide (r4 ≠ 0))] ⟨[],0⟩ _ (by kernel_rfl) (cjC (hc3) (cjC (hc3) (cjC (f38_ok a0 _ hr4 ⟨[],0⟩) (cjC (hc3) (cj1 (hc3)))))) (kj2 (decide (r4 ≠ 0)) rfl)
  ·rintro _ rfl
   refine run_t (by kernel_rfl) ?_
   replace h:=Option.some.inj h; subst h
   exact fin_r (by kernel_rfl) rfl
def f119 (a0:GInstrument) (a1:GCourse):Option Int:=((bif (decide (0 < a1.frets)) then ((ix a0.steps (wr (a1.frets - 1))).bind fun y2=>some (wr (a1.pitch + y2))) else (some a1.pitch)):Option Int).bind fun (j1_5:Int)=>((bif a1.octave then (some (wr (j1_5 + 12))) else (some j1_5)):Option Int).bind fun (j2_5:Int)=>some j2_5
theorem f119_ok (a0:GInstrument) (a1:GCourse) (r:Int) (h:f119 a0 a1 = some r):APure Tryz.prog 119 [E_GInstrument a0,E_GCourse a1] (.i r):=by
 refine apure (clK (cl_GInstrument a0) (clK (cl_GCourse a1) clZ)) rfl ?_
 refine run_f 25 [.tmp 4] (c119 0) (zipE [0,1] [E_GInstrument a0,E_GCourse a1]) (by kernel_rfl) (by kernel_rfl) (by kernel_rfl) rfl ?_
 unfold f119 at h
 refine run1z (c119 2) [] [2,3] [.mp 0 0 0,.mp 1 0 0] ⟨[(1,.cells 3 [E_GCourse a1]),(0,.cells 2 [E_GInstrument a0])],2⟩ _ (by kernel_rfl) cj0 ?_
 refine run1z (c119 4) [] [2,3,5] [.mp 0 0 0,.mp 1 0 0,.i a1.pitch] ⟨[(1,.cells 3 [E_GCourse a1]),(0,.cells 2 [E_GInstrument a0])],2⟩ _ (by kernel_rfl) cj0 ?_
 obtain ⟨j1_5,hj1,h⟩:=bindE h
 refine run_jq (c119 5) (c119 10) (fun (j1_5:Int)=>(zipE [3,5] [.mp 1 0 0,.i j1_5])) (fun (j1_5:Int)=>⟨[(1,.cells 3 [E_GCourse a1])],2⟩) (fun j=>j1_5 = j) (by kernel_rfl) (fun kj1=>?_) ?_
 ·refine run1z (c119 7) [] [2,3,5,10] [.mp 0 0 0,.mp 1 0 0,.i a1.pitch,.bool (decide (0 < a1.frets))] ⟨[(1,.cells 3 [E_GCourse a1]),(0,.cells 2 [E_GInstrument a0])],2⟩ _ (by kernel_rfl) cj0 ?_
  rcases iteE hj1 with ⟨hc1,hj1⟩ | ⟨hc1,hj1⟩
  ·refine run_cT 10 (c119 8) (c119 9) (decide (0 < a1.frets)) hc1 (by kernel_rfl) (by kernel_rfl) ?_
   obtain ⟨y2,hy2,hj1⟩:=bindE hj1
   refine run0z [{},{},{},{},{},{},{ k:=1,x:=AV.i y2 }] [3,5] [.mp 1 0 0,.i (wr (a1.pitch + y2))] ⟨[(1,.cells 3 [E_GCourse a1])],2⟩ _ (by kernel_rfl) (cjC ((ixE hy2).1) (cj1 (mapGet AV.i (ixE hy2).2))) ?_
   replace hj1:=Option.some.inj hj1; subst hj1
   refine thenN ?_
   exact kj1 (wr (a1.pitch + y2)) rfl
  ·refine run_cF 10 (c119 8) (c119 9) (decide (0 < a1.frets)) hc1 (by kernel_rfl) (by kernel_rfl) ?_
   replace hj1:=Option.some.inj hj1; subst hj1
   refine awp_p [3,5] [1] (zipE [3,5] [.mp 1 0 0,.i a1.pitch]) ⟨[(1,.cells 3 [E_GCourse a1])],2⟩ (by kernel_rfl) (?_)
   refine run_k (by kernel_rfl) ?_
   refine thenN ?_
   exact kj1 a1.pitch rfl
 ·rintro _ rfl
  obtain ⟨j2_5,hj2,h⟩:=bindE h
  refine run_jq (c119 11) (c119 16) (fun (j2_5:Int)=>(zipE [5] [.i j2_5])) (fun (j2_5:Int)=>⟨[],2⟩) (fun j=>j2_5 = j) (by kernel_rfl) (fun kj2=>?_) ?_
  ·refine run1z (c119 13) [] [5,21] [.i j1_5,.bool a1.octave] ⟨[],2⟩ _ (by kernel_rfl) cj0 ?_
   rcases iteE hj2 with ⟨hc3,hj2⟩ | ⟨hc3,hj2⟩
   ·refine run_cT 21 (c119 14) (c119 15) a1.octave hc3 (by kernel_rfl) (by kernel_rfl) ?_
    refine run0z [] [5] [.i (wr (j1_5 + 12))] ⟨[],2⟩ _ (by kernel_rfl) cj0 ?_
    replace hj2:=Option.some.inj hj2; subst hj2
    refine thenN ?_
    exact kj2 (wr (j1_5 + 12)) rfl
   ·refine run_cF 21 (c119 14) (c119 15) a1.octave hc3 (by kernel_rfl) (by kernel_rfl) ?_
    replace hj2:=Option.some.inj hj2; subst hj2
    refine awp_p [5] [] (zipE [5] [.i j1_5]) ⟨[],2⟩ (by kernel_rfl) (?_)
    refine run_k (by kernel_rfl) ?_
    refine thenN ?_
    exact kj2 j1_5 rfl
  ·rintro _ rfl
   refine run1z (c119 18) [] [4] [.i j2_5] ⟨[],2⟩ _ (by kernel_rfl) cj0 ?_
   refine run_t (by kernel_rfl) ?_
   replace h:=Option.some.inj h; subst h
   exact fin_r (by kernel_rfl) rfl
def f85 (a0:GInstrument):Option Int:=((bif (decide (14 < (a0.courses.length:Int))) then (some true) else (some (decide (18 < (a0.steps.length:Int))))):Option Bool).bind fun (j1_17:Bool)=>bif j1_17 then (some 2) else (bif (decide ((a0.courses.length:Int) = 0)) then (some 11) else ((loopN (σ:=(Int × Int)) (τ:=(Unit ⊕ Int)) (fun ((l2_3,l2_25):(Int × Int))=>bif (decide (l2_25 < (a0.steps.length:Int))) then ((ix a0.steps l2_25).bind fun y5=>((bif (decide (y5 ≤ l2_3)) then (some true) else (some (decide (127 < y5)))):Option Bool).bind fun (j3_35:Bool)=>bif j3_35 then (some (.inr (.inr 11))) else (some (.inl (y5,(wr (l2_25 + 1)))))) else (some (.inr (.inl ())))) FUEL (0,0)).bind (Sum.elim (fun (_:Unit)=>(loopN (σ:=Int) (τ:=(Unit ⊕ Int)) (fun (l4_41:Int)=>bif (decide (l4_41 < (a0.courses.length:Int))) then ((ix a0.courses l4_41).bind fun y9=>((bif (decide (y9.frets < 0)) then (some true) else (some (decide ((a0.steps.length:Int) < y9.frets)))):Option Bool).bind fun (j5_55:Bool)=>bif j5_55 then (some (.inr (.inr 13))) else (((bif (decide (y9.pitch < 0)) then (some true) else (bif (decide (127 < y9.pitch)) then (some true) else ((f119 a0 y9).bind fun r14=>some (decide (127 < r14))))):Option Bool).bind fun (j6_69:Bool)=>bif j6_69 then (some (.inr (.inr 10))) else (some (.inl (wr (l4_41 + 1)))))) else (some (.inr (.inl ())))) FUEL 0).bind (Sum.elim (fun (_:Unit)=>some 0) some)) some)))
theorem f85_ok (a0:GInstrument) (r:Int) (h:f85 a0 = some r):APure Tryz.prog 85 [E_GInstrument a0] (.i r):=by
 refine apure (clK (cl_GInstrument a0) clZ) rfl ?_
 refine run_f 71 [.tmp 2] (c85 0) (zipE [0] [E_GInstrument a0]) (by kernel_rfl) (by kernel_rfl) (by kernel_rfl) rfl ?_
 unfold f85 at h
 refine run1z (c85 2) [] [1] [.mp 0 0 0] ⟨[(0,.cells 2 [E_GInstrument a0])],1⟩ _ (by kernel_rfl) cj0 ?_
 refine run_s (c85 3) (c85 10) (by kernel_rfl) ?_
 obtain ⟨j1_17,hj1,h⟩:=bindE h
 refine run_gq (c85 5) (fun (j1_17:Bool)=>(zipE [1,17] [.mp 0 0 0,.bool j1_17])) (fun (j1_17:Bool)=>⟨[(0,.cells 2 [E_GInstrument a0])],1⟩) (fun j=>j1_17 = j) (fun kj1=>?_) ?_
 ·rcases iteE hj1 with ⟨hc1,hj1⟩ | ⟨hc1,hj1⟩
  ·replace hj1:=Option.some.inj hj1; subst hj1
   exact run1z (c85 5) [{},{},{ k:=1,n:=a0.courses.length },{},{},{ g:=false },{ g:=false },{ g:=false },{ g:=false },{ k:=1,b:=true }] [1,17] [.mp 0 0 0,.bool true] ⟨[(0,.cells 2 [E_GInstrument a0])],1⟩ _ (by kernel_rfl) (cjC (mapLen a0.courses E_GCourse) (cjC (hc1) (cjC (hc1) (cjC (hc1) (cjC (hc1) (cj1 (hc1))))))) (kj1 true rfl)
  ·replace hj1:=Option.some.inj hj1; subst hj1
   exact run1z (c85 5) [{},{},{ k:=1,n:=a0.courses.length },{},{},{},{},{ k:=1,n:=a0.steps.length },{},{ k:=1,b:=false }] [1,17] [.mp 0 0 0,.bool (decide (18 < (a0.steps.length:Int)))] ⟨[(0,.cells 2 [E_GInstrument a0])],1⟩ _ (by kernel_rfl) (cjC (mapLen a0.courses E_GCourse) (cjC (hc1) (cjC (hc1) (cjC (hc1) (cjC (mapLen a0.steps AV.i) (cjC (hc1) (cj1 (hc1)))))))) (kj1 (decide (18 < (a0.steps.length:Int))) rfl)
 ·rintro _ rfl
  rcases iteE h with ⟨hc2,h⟩ | ⟨hc2,h⟩
  ·refine run_cT 17 (c85 6) (c85 9) j1_17 hc2 (by kernel_rfl) (by kernel_rfl) ?_
   refine run1z (c85 8) [] [2] [.i 2] ⟨[],1⟩ _ (by kernel_rfl) cj0 ?_
   refine run_t (by kernel_rfl) ?_
   refine thenR ?_
   replace h:=Option.some.inj h; subst h
   exact fin_r (by kernel_rfl) rfl
  ·refine run_cF 17 (c85 6) (c85 9) j1_17 hc2 (by kernel_rfl) (by kernel_rfl) ?_
   refine run_k (by kernel_rfl) ?_
   refine thenN ?_
   refine run_s (c85 11) (c85 18) (by kernel_rfl) ?_
   refine run1z (c85 13) [{},{},{ k:=1,n:=a0.courses.length }] [1,21] [.mp 0 0 0,.bool (decide ((a0.courses.length:Int) = 0))] ⟨[(0,.cells 2 [E_GInstrument a0])],1⟩ _ (by kernel_rfl) (cj1 (mapLen a0.courses E_GCourse)) ?_
   rcases iteE h with ⟨hc3,h⟩ | ⟨hc3,h⟩
   ·refine run_cT 21 (c85 14) (c85 17) (decide ((a0.courses.length:Int) = 0)) hc3 (by kernel_rfl) (by kernel_rfl) ?_
    refine run1z (c85 16) [] [2] [.i 11] ⟨[],1⟩ _ (by kernel_rfl) cj0 ?_
    refine run_t (by kernel_rfl) ?_
    refine thenR ?_
    replace h:=Option.some.inj h; subst h
    exact fin_r (by kernel_rfl) rfl
   ·refine run_cF 21 (c85 14) (c85 17) (decide ((a0.courses.length:Int) = 0)) hc3 (by kernel_rfl) (by kernel_rfl) ?_
    refine run_k (by kernel_rfl) ?_
    refine thenN ?_
    refine run1z (c85 20) [] [1,3] [.mp 0 0 0,.i 0] ⟨[(0,.cells 2 [E_GInstrument a0])],1⟩ _ (by kernel_rfl) cj0 ?_
    refine run_s (c85 21) (c85 45) (by kernel_rfl) ?_
    refine run1z (c85 23) [{},{},{ k:=1,n:=a0.steps.length }] [1,3,23,24,25] [.mp 0 0 0,.i 0,.sl false (a0.steps.map AV.i),.i (a0.steps.length:Int),.i 0] ⟨[(0,.cells 2 [E_GInstrument a0])],1⟩ _ (by kernel_rfl) (cj1 (mapLen a0.steps AV.i)) ?_
    obtain ⟨ol2x,hll2x,h⟩:=bindE h
    refine run_tq (fun (_:Unit)=>(zipE [1] [.mp 0 0 0])) (fun (_:Unit)=>⟨[(0,.cells 2 [E_GInstrument a0])],1⟩) (fun j=>ol2x = .inl j) (fun kl2=>?_) ?_
    ·refine run_b 0 (c85 24) (by kernel_rfl) ?_
     refine run_l (c85 25) _ hll2x (fun ((l2_3,l2_25):(Int × Int))=>(zipE [1,3,23,24,25] [.mp 0 0 0,.i l2_3,.sl false (a0.steps.map AV.i),.i (a0.steps.length:Int),.i l2_25])) (fun ((l2_3,l2_25):(Int × Int))=>⟨[(0,.cells 2 [E_GInstrument a0])],1⟩) [] (by intro i e; cases e <;> exact Nat.le_of_ble_eq_true rfl) (by kernel_rfl) (mkInto (ks:=[1,3,23,24,25]) (ys:=[.mp 0 0 0,.i 0,.sl false (a0.steps.map AV.i),.i (a0.steps.length:Int),.i 0]) (by kernel_rfl) (by kernel_rfl) (.k (.mp rfl rfl) (.k (.c rfl) (.k (.c (cleanMap _ _ cl_i)) (.k (.c rfl) (.k (.c rfl) .z))))) (.k (x':=.cells 2 [E_GInstrument a0]) (by kernel_rfl) (.cells (.k (.c (cl_GInstrument a0)) .z)) .z)) ?_
     rintro ⟨l2_3,l2_25⟩ out hl2 rl2
     refine run1z (c85 27) [] [1,3,23,24,25,26] [.mp 0 0 0,.i l2_3,.sl false (a0.steps.map AV.i),.i (a0.steps.length:Int),.i l2_25,.bool (decide (l2_25 < (a0.steps.length:Int)))] ⟨[(0,.cells 2 [E_GInstrument a0])],1⟩ _ (by kernel_rfl) cj0 ?_
     refine run_s (c85 28) (c85 31) (by kernel_rfl) ?_
     rcases iteE hl2 with ⟨hc4,hl2⟩ | ⟨hc4,hl2⟩
     ·refine run_cT 26 (c85 29) (c85 30) (decide (l2_25 < (a0.steps.length:Int))) hc4 (by kernel_rfl) (by kernel_rfl) ?_
      refine run_k (by kernel_rfl) ?_
      refine thenN ?_
      refine run_s (c85 32) (c85 44) (by kernel_rfl) ?_
      refine run_b 1 (c85 33) (by kernel_rfl) ?_
      obtain ⟨y5,hy5,hl2⟩:=bindE hl2
      refine run1z (c85 35) [{ k:=1,x:=AV.i y5 }] [1,3,5,23,24,25] [.mp 0 0 0,.i l2_3,.i y5,.sl false (a0.steps.map AV.i),.i (a0.steps.length:Int),.i l2_25] ⟨[(0,.cells 2 [E_GInstrument a0])],1⟩ _ (by kernel_rfl) (cjC ((ixE hy5).1) (cj1 (mapGet AV.i (ixE hy5).2))) ?_
      refine run_s (c85 36) (c85 43) (by kernel_rfl) ?_
      obtain ⟨j3_35,hj3,hl2⟩:=bindE hl2
      refine run_gq (c85 38) (fun (j3_35:Bool)=>(zipE [1,5,23,24,25,35] [.mp 0 0 0,.i y5,.sl false (a0.steps.map AV.i),.i (a0.steps.length:Int),.i l2_25,.bool j3_35])) (fun (j3_35:Bool)=>⟨[(0,.cells 2 [E_GInstrument a0])],1⟩) (fun j=>j3_35 = j) (fun kj3=>?_) ?_
      ·rcases iteE hj3 with ⟨hc6,hj3⟩ | ⟨hc6,hj3⟩
       ·replace hj3:=Option.some.inj hj3; subst hj3
        exact run1z (c85 38) [{},{},{},{},{ g:=false },{ g:=false },{ k:=1,b:=true }] [1,5,23,24,25,35] [.mp 0 0 0,.i y5,.sl false (a0.steps.map AV.i),.i (a0.steps.length:Int),.i l2_25,.bool true] ⟨[(0,.cells 2 [E_GInstrument a0])],1⟩ _ (by kernel_rfl) (cjC (hc6) (cjC (hc6) (cj1 (hc6)))) (kj3 true rfl)
       ·replace hj3:=Option.some.inj hj3; subst hj3
        exact run1z (c85 38) [{},{},{},{},{},{},{ k:=1,b:=false }] [1,5,23,24,25,35] [.mp 0 0 0,.i y5,.sl false (a0.steps.map AV.i),.i (a0.steps.length:Int),.i l2_25,.bool (decide (127 < y5))] ⟨[(0,.cells 2 [E_GInstrument a0])],1⟩ _ (by kernel_rfl) (cjC (hc6) (cjC (hc6) (cj1 (hc6)))) (kj3 (decide (127 < y5)) rfl)
      ·rintro _ rfl
       rcases iteE hl2 with ⟨hc7,hl2⟩ | ⟨hc7,hl2⟩
       ·refine run_cT 35 (c85 39) (c85 42) j3_35 hc7 (by kernel_rfl) (by kernel_rfl) ?_
        refine run1z (c85 41) [] [2] [.i 11] ⟨[],1⟩ _ (by kernel_rfl) cj0 ?_
        replace hl2:=Option.some.inj hl2; subst hl2
        have hr:=rl2 _ rfl
        subst hr
        replace h:=elimR h
        refine run_t (by kernel_rfl) ?_
        refine thenR ?_
        refine inbR ?_
        refine thenR ?_
        refine ⟨⟨_,rfl⟩,?_⟩
        refine inbR ?_
        refine thenR ?_
        replace h:=Option.some.inj h; subst h
        exact fin_r (by kernel_rfl) rfl
       ·refine run_cF 35 (c85 39) (c85 42) j3_35 hc7 (by kernel_rfl) (by kernel_rfl) ?_
        refine run_k (by kernel_rfl) ?_
        refine thenN ?_
        refine run0z [] [1,3,23,24,25] [.mp 0 0 0,.i y5,.sl false (a0.steps.map AV.i),.i (a0.steps.length:Int),.i l2_25] ⟨[(0,.cells 2 [E_GInstrument a0])],1⟩ _ (by kernel_rfl) cj0 ?_
        refine inbN ?_
        refine thenN ?_
        refine run0z [] [1,3,23,24,25] [.mp 0 0 0,.i y5,.sl false (a0.steps.map AV.i),.i (a0.steps.length:Int),.i (wr (l2_25 + 1))] ⟨[(0,.cells 2 [E_GInstrument a0])],1⟩ _ (by kernel_rfl) cj0 ?_
        replace hl2:=Option.some.inj hl2; subst hl2
        exact ⟨_,rfl,pi [],mkInto (ks:=[1,3,23,24,25]) (ys:=[.mp 0 0 0,.i y5,.sl false (a0.steps.map AV.i),.i (a0.steps.length:Int),.i (wr (l2_25 + 1))]) (by kernel_rfl) (by kernel_rfl) (.k (.mp rfl rfl) (.k (.c rfl) (.k (.c (cleanMap _ _ cl_i)) (.k (.c rfl) (.k (.c rfl) .z))))) (.k (x':=.cells 2 [E_GInstrument a0]) (by kernel_rfl) (.cells (.k (.c (cl_GInstrument a0)) .z)) .z)⟩
     ·refine run_cF 26 (c85 29) (c85 30) (decide (l2_25 < (a0.steps.length:Int))) hc4 (by kernel_rfl) (by kernel_rfl) ?_
      replace hl2:=Option.some.inj hl2; subst hl2
      have hr:=rl2 _ rfl
      subst hr
      refine awp_p [1] [0] (zipE [1] [.mp 0 0 0]) ⟨[(0,.cells 2 [E_GInstrument a0])],1⟩ (by kernel_rfl) (?_)
      refine run_e 0 (by kernel_rfl) ?_
      refine thenE ?_
      refine ⟨⟨_,rfl⟩,?_⟩
      refine inbE ?_
      exact kl2 () rfl
    ·rintro ⟨⟩ rfl
     replace h:=elimL h
     refine thenN ?_
     refine run_s (c85 46) (c85 76) (by kernel_rfl) ?_
     refine run1z (c85 48) [{},{},{ k:=1,n:=a0.courses.length }] [1,39,40,41] [.mp 0 0 0,.sl false (a0.courses.map E_GCourse),.i (a0.courses.length:Int),.i 0] ⟨[(0,.cells 2 [E_GInstrument a0])],1⟩ _ (by kernel_rfl) (cj1 (mapLen a0.courses E_GCourse)) ?_
     obtain ⟨ol4x,hll4x,h⟩:=bindE h
     refine run_tq (fun (_:Unit)=>(zipE [] [])) (fun (_:Unit)=>⟨[],1⟩) (fun j=>ol4x = .inl j) (fun kl4=>?_) ?_
     ·refine run_b 2 (c85 49) (by kernel_rfl) ?_
      refine run_l (c85 50) _ hll4x (fun (l4_41:Int)=>(zipE [1,39,40,41] [.mp 0 0 0,.sl false (a0.courses.map E_GCourse),.i (a0.courses.length:Int),.i l4_41])) (fun (l4_41:Int)=>⟨[(0,.cells 2 [E_GInstrument a0])],1⟩) [] (by intro i e; cases e <;> exact Nat.le_of_ble_eq_true rfl) (by kernel_rfl) (mkInto (ks:=[1,39,40,41]) (ys:=[.mp 0 0 0,.sl false (a0.courses.map E_GCourse),.i (a0.courses.length:Int),.i 0]) (by kernel_rfl) (by kernel_rfl) (.k (.mp rfl rfl) (.k (.c (cleanMap _ _ cl_GCourse)) (.k (.c rfl) (.k (.c rfl) .z)))) (.k (x':=.cells 2 [E_GInstrument a0]) (by kernel_rfl) (.cells (.k (.c (cl_GInstrument a0)) .z)) .z)) ?_
      rintro l4_41 out hl4 rl4
      refine run1z (c85 52) [] [1,39,40,41,42] [.mp 0 0 0,.sl false (a0.courses.map E_GCourse),.i (a0.courses.length:Int),.i l4_41,.bool (decide (l4_41 < (a0.courses.length:Int)))] ⟨[(0,.cells 2 [E_GInstrument a0])],1⟩ _ (by kernel_rfl) cj0 ?_
      refine run_s (c85 53) (c85 56) (by kernel_rfl) ?_
      rcases iteE hl4 with ⟨hc8,hl4⟩ | ⟨hc8,hl4⟩
      ·refine run_cT 42 (c85 54) (c85 55) (decide (l4_41 < (a0.courses.length:Int))) hc8 (by kernel_rfl) (by kernel_rfl) ?_
       refine run_k (by kernel_rfl) ?_
       refine thenN ?_
       refine run_s (c85 57) (c85 75) (by kernel_rfl) ?_
       refine run_b 3 (c85 58) (by kernel_rfl) ?_
       obtain ⟨y9,hy9,hl4⟩:=bindE hl4
       refine run1z (c85 60) [{ k:=1,x:=E_GCourse y9 }] [1,7,39,40,41] [.mp 0 0 0,.mp 1 0 0,.sl false (a0.courses.map E_GCourse),.i (a0.courses.length:Int),.i l4_41] ⟨[(1,.cells 3 [E_GCourse y9]),(0,.cells 2 [E_GInstrument a0])],2⟩ _ (by kernel_rfl) (cjC ((ixE hy9).1) (cj1 (mapGet E_GCourse (ixE hy9).2))) ?_
       refine run_s (c85 61) (c85 68) (by kernel_rfl) ?_
       obtain ⟨j5_55,hj5,hl4⟩:=bindE hl4
       refine run_gq (c85 63) (fun (j5_55:Bool)=>(zipE [1,7,39,40,41,55] [.mp 0 0 0,.mp 1 0 0,.sl false (a0.courses.map E_GCourse),.i (a0.courses.length:Int),.i l4_41,.bool j5_55])) (fun (j5_55:Bool)=>⟨[(1,.cells 3 [E_GCourse y9]),(0,.cells 2 [E_GInstrument a0])],2⟩) (fun j=>j5_55 = j) (fun kj5=>?_) ?_
       ·rcases iteE hj5 with ⟨hc10,hj5⟩ | ⟨hc10,hj5⟩
        ·replace hj5:=Option.some.inj hj5; subst hj5
         exact run1z (c85 63) [{},{},{},{},{ g:=false },{ g:=false },{ g:=false },{ g:=false },{ g:=false },{ g:=false },{ k:=1,b:=true }] [1,7,39,40,41,55] [.mp 0 0 0,.mp 1 0 0,.sl false (a0.courses.map E_GCourse),.i (a0.courses.length:Int),.i l4_41,.bool true] ⟨[(1,.cells 3 [E_GCourse y9]),(0,.cells 2 [E_GInstrument a0])],2⟩ _ (by kernel_rfl) (cjC (hc10) (cjC (hc10) (cjC (hc10) (cjC (hc10) (cjC (hc10) (cjC (hc10) (cj1 (hc10)))))))) (kj5 true rfl)
        ·replace hj5:=Option.some.inj hj5; subst hj5
         exact run1z (c85 63) [{},{},{},{},{},{},{},{},{ k:=1,n:=a0.steps.length },{},{ k:=1,b:=false }] [1,7,39,40,41,55] [.mp 0 0 0,.mp 1 0 0,.sl false (a0.courses.map E_GCourse),.i (a0.courses.length:Int),.i l4_41,.bool (decide ((a0.steps.length:Int) < y9.frets))] ⟨[(1,.cells 3 [E_GCourse y9]),(0,.cells 2 [E_GInstrument a0])],2⟩ _ (by kernel_rfl) (cjC (hc10) (cjC (hc10) (cjC (hc10) (cjC (hc10) (cjC (hc10) (cjC (mapLen a0.steps AV.i) (cjC (hc10) (cj1 (hc10))))))))) (kj5 (decide ((a0.steps.length:Int) < y9.frets)) rfl)
       ·rintro _ rfl
        rcases iteE hl4 with ⟨hc11,hl4⟩ | ⟨hc11,hl4⟩
        ·refine run_cT 55 (c85 64) (c85 67) j5_55 hc11 (by kernel_rfl) (by kernel_rfl) ?_
         refine run1z (c85 66) [] [2] [.i 13] ⟨[],2⟩ _ (by kernel_rfl) cj0 ?_
         replace hl4:=Option.some.inj hl4; subst hl4
         have hr:=rl4 _ rfl
         subst hr
         replace h:=elimR h
         refine run_t (by kernel_rfl) ?_
         refine thenR ?_
         refine inbR ?_
         refine thenR ?_
         refine ⟨⟨_,rfl⟩,?_⟩
         refine inbR ?_
         refine thenR ?_
         replace h:=Option.some.inj h; subst h
         exact fin_r (by kernel_rfl) rfl
        ·refine run_cF 55 (c85 64) (c85 67) j5_55 hc11 (by kernel_rfl) (by kernel_rfl) ?_
         refine run_k (by kernel_rfl) ?_
         refine thenN ?_
         obtain ⟨j6_69,hj6,hl4⟩:=bindE hl4
         refine run_gq (c85 70) (fun (j6_69:Bool)=>(zipE [1,39,40,41,69] [.mp 0 0 0,.sl false (a0.courses.map E_GCourse),.i (a0.courses.length:Int),.i l4_41,.bool j6_69])) (fun (j6_69:Bool)=>⟨[(0,.cells 2 [E_GInstrument a0])],2⟩) (fun j=>j6_69 = j) (fun kj6=>?_) ?_
         ·rcases iteE hj6 with ⟨hc12,hj6⟩ | ⟨hc12,hj6⟩
          ·replace hj6:=Option.some.inj hj6; subst hj6
           exact run1z (c85 70) [{},{},{},{},{ g:=false },{ g:=false },{ g:=false },{ k:=1,b:=true },{},{ g:=false },{ g:=false },{ g:=false },{ g:=false }] [1,39,40,41,69] [.mp 0 0 0,.sl false (a0.courses.map E_GCourse),.i (a0.courses.length:Int),.i l4_41,.bool true] ⟨[(0,.cells 2 [E_GInstrument a0])],2⟩ _ (by kernel_rfl) (cjC (hc12) (cjC (hc12) (cjC (hc12) (cjC (hc12) (cjC (Eq.refl true) (cjC (Eq.refl true) (cjC (Eq.refl true) (cj1 (Eq.refl true))))))))) (kj6 true rfl)
          ·rcases iteE hj6 with ⟨hc13,hj6⟩ | ⟨hc13,hj6⟩
           ·replace hj6:=Option.some.inj hj6; subst hj6
            exact run1z (c85 70) [{},{},{},{},{},{},{},{ k:=1,b:=false },{},{ g:=false },{ g:=false },{ g:=false },{ g:=false },{ k:=1,b:=true }] [1,39,40,41,69] [.mp 0 0 0,.sl false (a0.courses.map E_GCourse),.i (a0.courses.length:Int),.i l4_41,.bool true] ⟨[(0,.cells 2 [E_GInstrument a0])],2⟩ _ (by kernel_rfl) (cjC (hc12) (cjC (hc12) (cjC (hc12) (cjC (hc12) (cjC (hc13) (cjC (hc13) (cjC (hc13) (cjC (hc13) (cj1 (hc13)))))))))) (kj6 true rfl)
           ·obtain ⟨r14,hr14,hj6⟩:=bindE hj6
            replace hj6:=Option.some.inj hj6; subst hj6
            exact run1z (c85 70) [{},{},{},{},{},{},{},{ k:=1,b:=false },{},{},{},{ c:=some (.i r14,⟨[(1,.cells 3 [E_GCourse y9]),(0,.cells 2 [E_GInstrument a0])],2⟩) },{},{ k:=1,b:=false }] [1,39,40,41,69] [.mp 0 0 0,.sl false (a0.courses.map E_GCourse),.i (a0.courses.length:Int),.i l4_41,.bool (decide (127 < r14))] ⟨[(0,.cells 2 [E_GInstrument a0])],2⟩ _ (by kernel_rfl) (cjC (hc12) (cjC (hc12) (cjC (hc12) (cjC (hc12) (cjC (hc13) (cjC (hc13) (cjC (hc13) (cjC (f119_ok a0 y9 _ hr14 ⟨[(1,.cells 3 [E_GCourse y9]),(0,.cells 2 [E_GInstrument a0])],2⟩) (cjC (hc13) (cj1 (hc13))))))))))) (kj6 (decide (127 < r14)) rfl)
         ·rintro _ rfl
          rcases iteE hl4 with ⟨hc15,hl4⟩ | ⟨hc15,hl4⟩
          ·refine run_cT 69 (c85 71) (c85 74) j6_69 hc15 (by kernel_rfl) (by kernel_rfl) ?_
           refine run1z (c85 73) [] [2] [.i 10] ⟨[],2⟩ _ (by kernel_rfl) cj0 ?_
           replace hl4:=Option.some.inj hl4; subst hl4
           have hr:=rl4 _ rfl
           subst hr
           replace h:=elimR h
           refine run_t (by kernel_rfl) ?_
           refine inbR ?_
           refine thenR ?_
           refine ⟨⟨_,rfl⟩,?_⟩
           refine inbR ?_
           refine thenR ?_
           replace h:=Option.some.inj h; subst h
           exact fin_r (by kernel_rfl) rfl
          ·refine run_cF 69 (c85 71) (c85 74) j6_69 hc15 (by kernel_rfl) (by kernel_rfl) ?_
           refine run_k (by kernel_rfl) ?_
           refine inbN ?_
           refine thenN ?_
           refine run0z [] [1,39,40,41] [.mp 0 0 0,.sl false (a0.courses.map E_GCourse),.i (a0.courses.length:Int),.i (wr (l4_41 + 1))] ⟨[(0,.cells 2 [E_GInstrument a0])],2⟩ _ (by kernel_rfl) cj0 ?_
           replace hl4:=Option.some.inj hl4; subst hl4
           exact ⟨_,rfl,pi [],mkInto (ks:=[1,39,40,41]) (ys:=[.mp 0 0 0,.sl false (a0.courses.map E_GCourse),.i (a0.courses.length:Int),.i (wr (l4_41 + 1))]) (by kernel_rfl) (by kernel_rfl) (.k (.mp rfl rfl) (.k (.c (cleanMap _ _ cl_GCourse)) (.k (.c rfl) (.k (.c rfl) .z)))) (.k (x':=.cells 2 [E_GInstrument a0]) (by kernel_rfl) (.cells (.k (.c (cl_GInstrument a0)) .z)) .z)⟩
      ·refine run_cF 42 (c85 54) (c85 55) (decide (l4_41 < (a0.courses.length:Int))) hc8 (by kernel_rfl) (by kernel_rfl) ?_
       replace hl4:=Option.some.inj hl4; subst hl4
       have hr:=rl4 _ rfl
       subst hr
       refine awp_p [] [] (zipE [] []) ⟨[],1⟩ (by kernel_rfl) (?_)
       refine run_e 2 (by kernel_rfl) ?_
       refine thenE ?_
       refine ⟨⟨_,rfl⟩,?_⟩
       refine inbE ?_
       exact kl4 () rfl
     ·rintro ⟨⟩ rfl
      replace h:=elimL h
      refine thenN ?_
      refine run1z (c85 78) [] [2] [.i 0] ⟨[],1⟩ _ (by kernel_rfl) cj0 ?_
      refine run_t (by kernel_rfl) ?_
      replace h:=Option.some.inj h; subst h
      exact fin_r (by kernel_rfl) rfl
def f42 (a0:List (List GTone)) (a1:GInstrument):Option Int:=(f36 a0).bind fun r1=>bif (decide (r1 ≠ 0)) then (some r1) else ((f85 a1).bind fun r3=>some r3)
theorem f42_ok (a0:List (List GTone)) (a1:GInstrument) (r:Int) (h:f42 a0 a1 = some r):APure Tryz.prog 42 [.sl false (a0.map (SL E_GTone)),E_GInstrument a1] (.i r):=by
 refine apure (clK (cleanMap a0 _ (cl_SL cl_GTone)) (clK (cl_GInstrument a1) clZ)) rfl ?_
 refine run_f 13 [.tmp 4] (c42 0) (zipE [0,1] [.sl false (a0.map (SL E_GTone)),E_GInstrument a1]) (by kernel_rfl) (by kernel_rfl) (by kernel_rfl) rfl ?_
 unfold f42 at h
 refine run1z (c42 2) [] [0,3] [.sl false (a0.map (SL E_GTone)),.mp 0 0 0] ⟨[(0,.cells 2 [E_GInstrument a1])],1⟩ _ (by kernel_rfl) cj0 ?_
 refine run_s (c42 3) (c42 12) (by kernel_rfl) ?_
 obtain ⟨r1,hr1,h⟩:=bindE h
 refine run1z (c42 5) [{},{ c:=some (.i r1,⟨[(0,.cells 2 [E_GInstrument a1])],1⟩) }] [3,5] [.mp 0 0 0,.i r1] ⟨[(0,.cells 2 [E_GInstrument a1])],1⟩ _ (by kernel_rfl) (cj1 (f36_ok a0 _ hr1 ⟨[(0,.cells 2 [E_GInstrument a1])],1⟩)) ?_
 refine run1z (c42 7) [] [3,5,9] [.mp 0 0 0,.i r1,.bool (decide (r1 ≠ 0))] ⟨[(0,.cells 2 [E_GInstrument a1])],1⟩ _ (by kernel_rfl) cj0 ?_
 rcases iteE h with ⟨hc2,h⟩ | ⟨hc2,h⟩
 ·refine run_cT 9 (c42 8) (c42 11) (decide (r1 ≠ 0)) hc2 (by kernel_rfl) (by kernel_rfl) ?_
  refine run1z (c42 10) [] [4] [.i r1] ⟨[],1⟩ _ (by kernel_rfl) cj0 ?_
  refine run_t (by kernel_rfl) ?_
  refine thenR ?_
  replace h:=Option.some.inj h; subst h
  exact fin_r (by kernel_rfl) rfl
 ·refine run_cF 9 (c42 8) (c42 11) (decide (r1 ≠ 0)) hc2 (by kernel_rfl) (by kernel_rfl) ?_
  refine run_k (by kernel_rfl) ?_
  refine thenN ?_
  obtain ⟨r3,hr3,h⟩:=bindE h
  refine run1z (c42 14) [{},{ c:=some (.i r3,⟨[(0,.cells 2 [E_GInstrument a1])],1⟩) }] [4] [.i r3] ⟨[],1⟩ _ (by kernel_rfl) (cj1 (f85_ok a1 _ hr3 ⟨[(0,.cells 2 [E_GInstrument a1])],1⟩)) ?_
  refine run_t (by kernel_rfl) ?_
  replace h:=Option.some.inj h; subst h
  exact fin_r (by kernel_rfl) rfl
def f120 (a0:GInstrument) (a1:GCourse) (a2:Int):Option Int:=bif (decide (a2 = 0)) then (some a1.pitch) else ((ix a0.steps (wr (a2 - 1))).bind fun y2=>some (wr (a1.pitch + y2)))
theorem f120_ok (a0:GInstrument) (a1:GCourse) (a2:Int) (r:Int) (h:f120 a0 a1 a2 = some r):APure Tryz.prog 120 [E_GInstrument a0,E_GCourse a1,.i a2] (.i r):=by
 refine apure (clK (cl_GInstrument a0) (clK (cl_GCourse a1) (clK rfl clZ))) rfl ?_
 refine run_f 20 [.tmp 6] (c120 0) (zipE [0,1,2] [E_GInstrument a0,E_GCourse a1,.i a2]) (by kernel_rfl) (by kernel_rfl) (by kernel_rfl) rfl ?_
 unfold f120 at h
 refine run1z (c120 2) [] [2,3,4] [.i a2,.mp 0 0 0,.mp 1 0 0] ⟨[(1,.cells 3 [E_GCourse a1]),(0,.cells 2 [E_GInstrument a0])],2⟩ _ (by kernel_rfl) cj0 ?_
 refine run_s (c120 3) (c120 10) (by kernel_rfl) ?_
 refine run1z (c120 5) [] [2,3,4,8] [.i a2,.mp 0 0 0,.mp 1 0 0,.bool (decide (a2 = 0))] ⟨[(1,.cells 3 [E_GCourse a1]),(0,.cells 2 [E_GInstrument a0])],2⟩ _ (by kernel_rfl) cj0 ?_
 rcases iteE h with ⟨hc1,h⟩ | ⟨hc1,h⟩
 ·refine run_cT 8 (c120 6) (c120 9) (decide (a2 = 0)) hc1 (by kernel_rfl) (by kernel_rfl) ?_
  refine run1z (c120 8) [] [6] [.i a1.pitch] ⟨[],2⟩ _ (by kernel_rfl) cj0 ?_
  refine run_t (by kernel_rfl) ?_
  refine thenR ?_
  replace h:=Option.some.inj h; subst h
  exact fin_r (by kernel_rfl) rfl
 ·refine run_cF 8 (c120 6) (c120 9) (decide (a2 = 0)) hc1 (by kernel_rfl) (by kernel_rfl) ?_
  refine run_k (by kernel_rfl) ?_
  refine thenN ?_
  obtain ⟨y2,hy2,h⟩:=bindE h
  refine yun1z (c120 12) [[],[0],[],[2],[],[4],[2,3,4,5],[2,3,4,5,6],[0,1,2,3,4,5,6,7],[0,1,2,3,4,5,6,7,8]] [.light 0 false,.light 1 false,.light 2 false,.light 3 false,.light 4 false,.light 5 false,.light 6 false,.light 7 false,.light 8 false,.light 9 false] [{},{},{},{},{},{},{ k:=1,x:=AV.i y2 }] [6] [.i (wr (a1.pitch + y2))] ⟨[],2⟩ _ (by kernel_rfl) (cjC ((ixE hy2).1) (cj1 (mapGet AV.i (ixE hy2).2))) ?_
  refine run_t (by kernel_rfl) ?_
  replace h:=Option.some.inj h; subst h
  exact fin_r (by kernel_rfl) rfl
def f86 (a0:GInstrument) (a1:Int):Option (((List GPlace)) × Int):=(f85 a0).bind fun r1=>bif (decide (r1 ≠ 0)) then (some (([]:List GPlace),r1)) else (((bif (decide (a1 < 0)) then (some true) else (some (decide (127 < a1)))):Option Bool).bind fun (j1_21:Bool)=>bif j1_21 then (some (([]:List GPlace),10)) else ((loopN (σ:=(List GPlace × Int)) (τ:=(List GPlace)) (fun ((l2_7,l2_25):(List GPlace × Int))=>bif (decide (l2_25 < (a0.courses.length:Int))) then ((ix a0.courses l2_25).bind fun y6=>(loopN (σ:=(List GPlace × Int)) (τ:=(List GPlace)) (fun ((l3_7,l3_10):(List GPlace × Int))=>bif (decide (l3_10 ≤ y6.frets)) then ((((f120 a0 y6 l3_10).bind fun r8=>bif (decide (r8 = a1)) then (need (l3_7.length + 1 ≤ maxElems) <| some (l3_7 ++ [(⟨(wr (l2_25 + 1)),l3_10⟩:GPlace)])) else (some l3_7)):Option (List GPlace)).bind fun (j4_7:(List GPlace))=>some (.inl (j4_7,(wr (l3_10 + 1))))) else (some (.inr l3_7))) FUEL (l2_7,0)).bind fun (l3x_7:(List GPlace))=>some (.inl (l3x_7,(wr (l2_25 + 1))))) else (some (.inr l2_7))) FUEL (([]:List GPlace),0)).bind fun (l2x_7:(List GPlace))=>some (l2x_7,0)))
theorem f86_ok (a0:GInstrument) (a1:Int) (r:(((List GPlace)) × Int)) (h:f86 a0 a1 = some r):APure Tryz.prog 86 [E_GInstrument a0,.i a1] (.tup [.sl false (r.1.map E_GPlace),.i r.2]):=by
 refine apure (clK (cl_GInstrument a0) (clK rfl clZ)) (clK (cleanMap r.1 _ cl_GPlace) (clK rfl clZ)) ?_
 refine run_f 51 [.tmp 4,.tmp 5] (c86 0) (zipE [0,1] [E_GInstrument a0,.i a1]) (by kernel_rfl) (by kernel_rfl) (by kernel_rfl) rfl ?_
 unfold f86 at h
 refine run1z (c86 2) [] [1,2] [.i a1,.mp 0 0 0] ⟨[(0,.cells 2 [E_GInstrument a0])],1⟩ _ (by kernel_rfl) cj0 ?_
 refine run_s (c86 3) (c86 12) (by kernel_rfl) ?_
 obtain ⟨r1,hr1,h⟩:=bindE h
 refine run1z (c86 5) [{},{ c:=some (.i r1,⟨[(0,.cells 2 [E_GInstrument a0])],1⟩) }] [1,2,6] [.i a1,.mp 0 0 0,.i r1] ⟨[(0,.cells 2 [E_GInstrument a0])],1⟩ _ (by kernel_rfl) (cj1 (f85_ok a0 _ hr1 ⟨[(0,.cells 2 [E_GInstrument a0])],1⟩)) ?_
 refine run1z (c86 7) [] [1,2,6,14] [.i a1,.mp 0 0 0,.i r1,.bool (decide (r1 ≠ 0))] ⟨[(0,.cells 2 [E_GInstrument a0])],1⟩ _ (by kernel_rfl) cj0 ?_
 rcases iteE h with ⟨hc2,h⟩ | ⟨hc2,h⟩
 ·refine run_cT 14 (c86 8) (c86 11) (decide (r1 ≠ 0)) hc2 (by kernel_rfl) (by kernel_rfl) ?_
  refine run1z (c86 10) [] [4,5] [.sl true [],.i r1] ⟨[],1⟩ _ (by kernel_rfl) cj0 ?_
  refine run_i 1 [] [4,5] [.sl true [],.i r1] (xs:=[.sl false (([]:List GPlace).map E_GPlace),.i r1]) (S2:=⟨[],1⟩) ?_ (by intro i e; cases e <;> exact Nat.le_of_ble_eq_true rfl) (by kernel_rfl) (by kernel_rfl) (by kernel_rfl) (.k (.s (cleanMap (([]:List GPlace)) _ cl_GPlace)) (.k (.c rfl) .z)) .z
  refine run_t (by kernel_rfl) ?_
  refine thenR ?_
  replace h:=Option.some.inj h; subst h
  exact fin_r (by kernel_rfl) rfl
 ·refine run_cF 14 (c86 8) (c86 11) (decide (r1 ≠ 0)) hc2 (by kernel_rfl) (by kernel_rfl) ?_
  refine run_k (by kernel_rfl) ?_
  refine thenN ?_
  refine run_s (c86 13) (c86 20) (by kernel_rfl) ?_
  obtain ⟨j1_21,hj1,h⟩:=bindE h
  refine run_gq (c86 15) (fun (j1_21:Bool)=>(zipE [1,2,21] [.i a1,.mp 0 0 0,.bool j1_21])) (fun (j1_21:Bool)=>⟨[(0,.cells 2 [E_GInstrument a0])],1⟩) (fun j=>j1_21 = j) (fun kj1=>?_) ?_
  ·rcases iteE hj1 with ⟨hc3,hj1⟩ | ⟨hc3,hj1⟩
   ·replace hj1:=Option.some.inj hj1; subst hj1
    exact run1z (c86 15) [{},{},{},{ g:=false },{ g:=false },{ k:=1,b:=true }] [1,2,21] [.i a1,.mp 0 0 0,.bool true] ⟨[(0,.cells 2 [E_GInstrument a0])],1⟩ _ (by kernel_rfl) (cjC (hc3) (cjC (hc3) (cj1 (hc3)))) (kj1 true rfl)
   ·replace hj1:=Option.some.inj hj1; subst hj1
    exact run1z (c86 15) [{},{},{},{},{},{ k:=1,b:=false }] [1,2,21] [.i a1,.mp 0 0 0,.bool (decide (127 < a1))] ⟨[(0,.cells 2 [E_GInstrument a0])],1⟩ _ (by kernel_rfl) (cjC (hc3) (cjC (hc3) (cj1 (hc3)))) (kj1 (decide (127 < a1)) rfl)
  ·rintro _ rfl
   rcases iteE h with ⟨hc4,h⟩ | ⟨hc4,h⟩
   ·refine run_cT 21 (c86 16) (c86 19) j1_21 hc4 (by kernel_rfl) (by kernel_rfl) ?_
    refine run1z (c86 18) [] [4,5] [.sl true [],.i 10] ⟨[],1⟩ _ (by kernel_rfl) cj0 ?_
    refine run_i 1 [] [4,5] [.sl true [],.i 10] (xs:=[.sl false (([]:List GPlace).map E_GPlace),.i 10]) (S2:=⟨[],1⟩) ?_ (by intro i e; cases e <;> exact Nat.le_of_ble_eq_true rfl) (by kernel_rfl) (by kernel_rfl) (by kernel_rfl) (.k (.s (cleanMap (([]:List GPlace)) _ cl_GPlace)) (.k (.c rfl) .z)) .z
    refine run_t (by kernel_rfl) ?_
    refine thenR ?_
    replace h:=Option.some.inj h; subst h
    exact fin_r (by kernel_rfl) rfl
   ·refine run_cF 21 (c86 16) (c86 19) j1_21 hc4 (by kernel_rfl) (by kernel_rfl) ?_
    refine run_k (by kernel_rfl) ?_
    refine thenN ?_
    refine run1z (c86 22) [] [1,2,7] [.i a1,.mp 0 0 0,.sl true []] ⟨[(0,.cells 2 [E_GInstrument a0])],1⟩ _ (by kernel_rfl) cj0 ?_
    refine run_s (c86 23) (c86 56) (by kernel_rfl) ?_
    refine run1z (c86 25) [{},{},{ k:=1,n:=a0.courses.length }] [1,2,7,23,24,25] [.i a1,.mp 0 0 0,.sl true [],.sl false (a0.courses.map E_GCourse),.i (a0.courses.length:Int),.i 0] ⟨[(0,.cells 2 [E_GInstrument a0])],1⟩ _ (by kernel_rfl) (cj1 (mapLen a0.courses E_GCourse)) ?_
    obtain ⟨l2x_7,hll2x,h⟩:=bindE h
    refine run_tq (fun (l2x_7:(List GPlace))=>(zipE [7] [.ms 1 0 l2x_7.length])) (fun (l2x_7:(List GPlace))=>⟨[(1,.cells 2 (l2x_7.map E_GPlace))],2⟩) (fun j=>l2x_7 = j) (fun kl2=>?_) ?_
    ·refine run_b 0 (c86 26) (by kernel_rfl) ?_
     refine run_l (c86 27) _ hll2x (fun ((l2_7,l2_25):(List GPlace × Int))=>(zipE [1,2,7,23,24,25] [.i a1,.mp 0 0 0,.ms 1 0 l2_7.length,.sl false (a0.courses.map E_GCourse),.i (a0.courses.length:Int),.i l2_25])) (fun ((l2_7,l2_25):(List GPlace × Int))=>⟨[(1,.cells 2 (l2_7.map E_GPlace)),(0,.cells 2 [E_GInstrument a0])],2⟩) [(1,1000000)] (by intro i e; cases e <;> exact Nat.le_of_ble_eq_true rfl) (by kernel_rfl) (mkInto (ks:=[1,2,7,23,24,25]) (ys:=[.i a1,.mp 0 0 0,.sl true [],.sl false (a0.courses.map E_GCourse),.i (a0.courses.length:Int),.i 0]) (by kernel_rfl) (by kernel_rfl) (.k (.c rfl) (.k (.mp rfl rfl) (.k (.n) (.k (.c (cleanMap _ _ cl_GCourse)) (.k (.c rfl) (.k (.c rfl) .z)))))) (.n rfl rfl rfl (.k (x':=.cells 2 [E_GInstrument a0]) (by kernel_rfl) (.cells (.k (.c (cl_GInstrument a0)) .z)) .z))) ?_
     rintro ⟨l2_7,l2_25⟩ out hl2 rl2
     refine run1z (c86 29) [] [1,2,7,23,24,25,26] [.i a1,.mp 0 0 0,.ms 1 0 l2_7.length,.sl false (a0.courses.map E_GCourse),.i (a0.courses.length:Int),.i l2_25,.bool (decide (l2_25 < (a0.courses.length:Int)))] ⟨[(1,.cells 2 (l2_7.map E_GPlace)),(0,.cells 2 [E_GInstrument a0])],2⟩ _ (by kernel_rfl) cj0 ?_
     refine run_s (c86 30) (c86 33) (by kernel_rfl) ?_
     rcases iteE hl2 with ⟨hc5,hl2⟩ | ⟨hc5,hl2⟩
     ·refine run_cT 26 (c86 31) (c86 32) (decide (l2_25 < (a0.courses.length:Int))) hc5 (by kernel_rfl) (by kernel_rfl) ?_
      refine run_k (by kernel_rfl) ?_
      refine thenN ?_
      refine run_s (c86 34) (c86 55) (by kernel_rfl) ?_
      refine run_b 1 (c86 35) (by kernel_rfl) ?_
      obtain ⟨y6,hy6,hl2⟩:=bindE hl2
      refine run1z (c86 37) [{},{ k:=1,x:=E_GCourse y6 }] [1,2,7,8,9,23,24,25] [.i a1,.mp 0 0 0,.ms 1 0 l2_7.length,.i l2_25,.mp 2 0 0,.sl false (a0.courses.map E_GCourse),.i (a0.courses.length:Int),.i l2_25] ⟨[(2,.cells 3 [E_GCourse y6]),(1,.cells 2 (l2_7.map E_GPlace)),(0,.cells 2 [E_GInstrument a0])],3⟩ _ (by kernel_rfl) (cjC ((ixE hy6).1) (cj1 (mapGet E_GCourse (ixE hy6).2))) ?_
      refine run1z (c86 39) [] [1,2,7,8,9,10,23,24,25] [.i a1,.mp 0 0 0,.ms 1 0 l2_7.length,.i l2_25,.mp 2 0 0,.i 0,.sl false (a0.courses.map E_GCourse),.i (a0.courses.length:Int),.i l2_25] ⟨[(2,.cells 3 [E_GCourse y6]),(1,.cells 2 (l2_7.map E_GPlace)),(0,.cells 2 [E_GInstrument a0])],3⟩ _ (by kernel_rfl) cj0 ?_
      obtain ⟨l3x_7,hll3x,hl2⟩:=bindE hl2
      refine run_tq (fun (l3x_7:(List GPlace))=>(zipE [1,2,7,23,24,25] [.i a1,.mp 0 0 0,.ms 3 0 l3x_7.length,.sl false (a0.courses.map E_GCourse),.i (a0.courses.length:Int),.i l2_25])) (fun (l3x_7:(List GPlace))=>⟨[(3,.cells 2 (l3x_7.map E_GPlace)),(0,.cells 2 [E_GInstrument a0])],4⟩) (fun j=>l3x_7 = j) (fun kl3=>?_) ?_
      ·refine run_b 2 (c86 40) (by kernel_rfl) ?_
       refine run_l (c86 41) _ hll3x (fun ((l3_7,l3_10):(List GPlace × Int))=>(zipE [1,2,7,8,9,10,23,24,25] [.i a1,.mp 0 0 0,.ms 3 0 l3_7.length,.i l2_25,.mp 2 0 0,.i l3_10,.sl false (a0.courses.map E_GCourse),.i (a0.courses.length:Int),.i l2_25])) (fun ((l3_7,l3_10):(List GPlace × Int))=>⟨[(3,.cells 2 (l3_7.map E_GPlace)),(2,.cells 3 [E_GCourse y6]),(0,.cells 2 [E_GInstrument a0])],4⟩) [(3,1)] (by intro i e; cases e <;> exact Nat.le_of_ble_eq_true rfl) (by kernel_rfl) (mkInto (ks:=[1,2,7,8,9,10,23,24,25]) (ys:=[.i a1,.mp 0 0 0,.ms 1 0 l2_7.length,.i l2_25,.mp 2 0 0,.i 0,.sl false (a0.courses.map E_GCourse),.i (a0.courses.length:Int),.i l2_25]) (by kernel_rfl) (by kernel_rfl) (.k (.c rfl) (.k (.mp rfl rfl) (.k (.ms rfl rfl) (.k (.c rfl) (.k (.mp rfl rfl) (.k (.c rfl) (.k (.c (cleanMap _ _ cl_GCourse)) (.k (.c rfl) (.k (.c rfl) .z))))))))) (.k (x':=.cells 2 (l2_7.map E_GPlace)) (by kernel_rfl) (.cells (.r (cleanMap _ _ cl_GPlace))) (.k (x':=.cells 3 [E_GCourse y6]) (by kernel_rfl) (.cells (.k (.c (cl_GCourse y6)) .z)) (.k (x':=.cells 2 [E_GInstrument a0]) (by kernel_rfl) (.cells (.k (.c (cl_GInstrument a0)) .z)) .z)))) ?_
       rintro ⟨l3_7,l3_10⟩ out hl3 rl3
       refine run_s (c86 42) (c86 47) (by kernel_rfl) ?_
       refine run1z (c86 44) [] [1,2,7,8,9,10,23,24,25,33] [.i a1,.mp 0 0 0,.ms 3 0 l3_7.length,.i l2_25,.mp 2 0 0,.i l3_10,.sl false (a0.courses.map E_GCourse),.i (a0.courses.length:Int),.i l2_25,.bool (decide (l3_10 ≤ y6.frets))] ⟨[(3,.cells 2 (l3_7.map E_GPlace)),(2,.cells 3 [E_GCourse y6]),(0,.cells 2 [E_GInstrument a0])],4⟩ _ (by kernel_rfl) cj0 ?_
       rcases iteE hl3 with ⟨hc7,hl3⟩ | ⟨hc7,hl3⟩
       ·refine run_cT 33 (c86 45) (c86 46) (decide (l3_10 ≤ y6.frets)) hc7 (by kernel_rfl) (by kernel_rfl) ?_
        refine run_k (by kernel_rfl) ?_
        refine thenN ?_
        obtain ⟨j4_7,hj4,hl3⟩:=bindE hl3
        refine run_jq (c86 48) (c86 54) (fun (j4_7:(List GPlace))=>(zipE [1,2,7,8,9,10,23,24,25] [.i a1,.mp 0 0 0,.ms 5 0 j4_7.length,.i l2_25,.mp 2 0 0,.i l3_10,.sl false (a0.courses.map E_GCourse),.i (a0.courses.length:Int),.i l2_25])) (fun (j4_7:(List GPlace))=>⟨[(5,.cells 2 (j4_7.map E_GPlace)),(2,.cells 3 [E_GCourse y6]),(0,.cells 2 [E_GInstrument a0])],6⟩) (fun j=>j4_7 = j) (by kernel_rfl) (fun kj4=>?_) ?_
        ·refine run_b 3 (c86 49) (by kernel_rfl) ?_
         obtain ⟨r8,hr8,hj4⟩:=bindE hj4
         refine run1z (c86 51) [{},{},{},{ c:=some (.i r8,⟨[(3,.cells 2 (l3_7.map E_GPlace)),(2,.cells 3 [E_GCourse y6]),(0,.cells 2 [E_GInstrument a0])],4⟩) }] [1,2,7,8,9,10,23,24,25,41] [.i a1,.mp 0 0 0,.ms 3 0 l3_7.length,.i l2_25,.mp 2 0 0,.i l3_10,.sl false (a0.courses.map E_GCourse),.i (a0.courses.length:Int),.i l2_25,.bool (decide (r8 = a1))] ⟨[(3,.cells 2 (l3_7.map E_GPlace)),(2,.cells 3 [E_GCourse y6]),(0,.cells 2 [E_GInstrument a0])],4⟩ _ (by kernel_rfl) (cj1 (f120_ok a0 y6 l3_10 _ hr8 ⟨[(3,.cells 2 (l3_7.map E_GPlace)),(2,.cells 3 [E_GCourse y6]),(0,.cells 2 [E_GInstrument a0])],4⟩)) ?_
         rcases iteE hj4 with ⟨hc9,hj4⟩ | ⟨hc9,hj4⟩
         ·refine run_cT 41 (c86 52) (c86 53) (decide (r8 = a1)) hc9 (by kernel_rfl) (by kernel_rfl) ?_
          obtain ⟨hn10,hj4⟩:=needE hj4
          refine run0z [{},{},{},{},{},{},{ k:=1,n:=(l3_7 ++ [(⟨(wr (l2_25 + 1)),l3_10⟩:GPlace)]).length,l:=(l3_7 ++ [(⟨(wr (l2_25 + 1)),l3_10⟩:GPlace)]).map E_GPlace }] [1,2,7,8,9,10,23,24,25] [.i a1,.mp 0 0 0,.ms 4 0 (l3_7 ++ [(⟨(wr (l2_25 + 1)),l3_10⟩:GPlace)]).length,.i l2_25,.mp 2 0 0,.i l3_10,.sl false (a0.courses.map E_GCourse),.i (a0.courses.length:Int),.i l2_25] ⟨[(4,.cells 2 ((l3_7 ++ [(⟨(wr (l2_25 + 1)),l3_10⟩:GPlace)]).map E_GPlace)),(2,.cells 3 [E_GCourse y6]),(0,.cells 2 [E_GInstrument a0])],5⟩ _ (by kernel_rfl) (cjC (@List.cons_ne_nil AV (.agg [.i (wr (l2_25 + 1)),.i l3_10]) []) (cjC (mLe l3_7 E_GPlace) (cjC (hn10) (cjC (lenA l3_7 ([(⟨(wr (l2_25 + 1)),l3_10⟩:GPlace)]:List GPlace)) (cjC (appA l3_7 ([(⟨(wr (l2_25 + 1)),l3_10⟩:GPlace)]:List GPlace) E_GPlace) (cj1 (fitsOne (P:=Tryz.prog) (t:=158) (x:=.agg [.i (wr (l2_25 + 1)),.i l3_10]) (r:=[]) (by kernel_rfl)))))))) ?_
          replace hj4:=Option.some.inj hj4; subst hj4
          refine inbN ?_
          refine thenN ?_
          exact run_i 5 [(5,4)] [1,2,7,8,9,10,23,24,25] [.i a1,.mp 0 0 0,.ms 4 0 (l3_7 ++ [(⟨(wr (l2_25 + 1)),l3_10⟩:GPlace)]).length,.i l2_25,.mp 2 0 0,.i l3_10,.sl false (a0.courses.map E_GCourse),.i (a0.courses.length:Int),.i l2_25] (kj4 (l3_7 ++ [(⟨(wr (l2_25 + 1)),l3_10⟩:GPlace)]) rfl) (by intro i e; cases e <;> exact Nat.le_of_ble_eq_true rfl) (by kernel_rfl) (by kernel_rfl) (by kernel_rfl) (.k (.c rfl) (.k (.mp rfl rfl) (.k (.ms rfl rfl) (.k (.c rfl) (.k (.mp rfl rfl) (.k (.c rfl) (.k (.c (cleanMap _ _ cl_GCourse)) (.k (.c rfl) (.k (.c rfl) .z))))))))) (.k (x':=.cells 2 ((l3_7 ++ [(⟨(wr (l2_25 + 1)),l3_10⟩:GPlace)]).map E_GPlace)) (by kernel_rfl) (.cells (.r (cleanMap _ _ cl_GPlace))) (.k (x':=.cells 3 [E_GCourse y6]) (by kernel_rfl) (.cells (.k (.c (cl_GCourse y6)) .z)) (.k (x':=.cells 2 [E_GInstrument a0]) (by kernel_rfl) (.cells (.k (.c (cl_GInstrument a0)) .z)) .z)))
         ·refine run_cF 41 (c86 52) (c86 53) (decide (r8 = a1)) hc9 (by kernel_rfl) (by kernel_rfl) ?_
          replace hj4:=Option.some.inj hj4; subst hj4
          refine run_i 5 [(5,3)] [1,2,7,8,9,10,23,24,25] [.i a1,.mp 0 0 0,.ms 3 0 l3_7.length,.i l2_25,.mp 2 0 0,.i l3_10,.sl false (a0.courses.map E_GCourse),.i (a0.courses.length:Int),.i l2_25] (xs:=[.i a1,.mp 0 0 0,.ms 5 0 l3_7.length,.i l2_25,.mp 2 0 0,.i l3_10,.sl false (a0.courses.map E_GCourse),.i (a0.courses.length:Int),.i l2_25]) (S2:=⟨[(5,.cells 2 (l3_7.map E_GPlace)),(2,.cells 3 [E_GCourse y6]),(0,.cells 2 [E_GInstrument a0])],6⟩) ?_ (by intro i e; cases e <;> exact Nat.le_of_ble_eq_true rfl) (by kernel_rfl) (by kernel_rfl) (by kernel_rfl) (.k (.c rfl) (.k (.mp rfl rfl) (.k (.ms rfl rfl) (.k (.c rfl) (.k (.mp rfl rfl) (.k (.c rfl) (.k (.c (cleanMap _ _ cl_GCourse)) (.k (.c rfl) (.k (.c rfl) .z))))))))) (.k (x':=.cells 2 (l3_7.map E_GPlace)) (by kernel_rfl) (.cells (.r (cleanMap _ _ cl_GPlace))) (.k (x':=.cells 3 [E_GCourse y6]) (by kernel_rfl) (.cells (.k (.c (cl_GCourse y6)) .z)) (.k (x':=.cells 2 [E_GInstrument a0]) (by kernel_rfl) (.cells (.k (.c (cl_GInstrument a0)) .z)) .z)))
          refine run_k (by kernel_rfl) ?_
          refine inbN ?_
          refine thenN ?_
          exact kj4 l3_7 rfl
        ·rintro _ rfl
         refine run0z [] [1,2,7,8,9,10,23,24,25] [.i a1,.mp 0 0 0,.ms 5 0 j4_7.length,.i l2_25,.mp 2 0 0,.i (wr (l3_10 + 1)),.sl false (a0.courses.map E_GCourse),.i (a0.courses.length:Int),.i l2_25] ⟨[(5,.cells 2 (j4_7.map E_GPlace)),(2,.cells 3 [E_GCourse y6]),(0,.cells 2 [E_GInstrument a0])],6⟩ _ (by kernel_rfl) cj0 ?_
         replace hl3:=Option.some.inj hl3; subst hl3
         exact ⟨_,rfl,pi [(3,5)],mkInto (ks:=[1,2,7,8,9,10,23,24,25]) (ys:=[.i a1,.mp 0 0 0,.ms 5 0 j4_7.length,.i l2_25,.mp 2 0 0,.i (wr (l3_10 + 1)),.sl false (a0.courses.map E_GCourse),.i (a0.courses.length:Int),.i l2_25]) (by kernel_rfl) (by kernel_rfl) (.k (.c rfl) (.k (.mp rfl rfl) (.k (.ms rfl rfl) (.k (.c rfl) (.k (.mp rfl rfl) (.k (.c rfl) (.k (.c (cleanMap _ _ cl_GCourse)) (.k (.c rfl) (.k (.c rfl) .z))))))))) (.k (x':=.cells 2 (j4_7.map E_GPlace)) (by kernel_rfl) (.cells (.r (cleanMap _ _ cl_GPlace))) (.k (x':=.cells 3 [E_GCourse y6]) (by kernel_rfl) (.cells (.k (.c (cl_GCourse y6)) .z)) (.k (x':=.cells 2 [E_GInstrument a0]) (by kernel_rfl) (.cells (.k (.c (cl_GInstrument a0)) .z)) .z)))⟩
       ·refine run_cF 33 (c86 45) (c86 46) (decide (l3_10 ≤ y6.frets)) hc7 (by kernel_rfl) (by kernel_rfl) ?_
        replace hl3:=Option.some.inj hl3; subst hl3
        have hr:=rl3 _ rfl
        subst hr
        refine awp_p [1,2,7,23,24,25] [3,0] (zipE [1,2,7,23,24,25] [.i a1,.mp 0 0 0,.ms 3 0 l3_7.length,.sl false (a0.courses.map E_GCourse),.i (a0.courses.length:Int),.i l2_25]) ⟨[(3,.cells 2 (l3_7.map E_GPlace)),(0,.cells 2 [E_GInstrument a0])],4⟩ (by kernel_rfl) (?_)
        refine run_e 2 (by kernel_rfl) ?_
        refine thenE ?_
        refine ⟨⟨_,rfl⟩,?_⟩
        refine inbE ?_
        exact kl3 l3_7 rfl
      ·rintro _ rfl
       refine inbN ?_
       refine thenN ?_
       refine run0z [] [1,2,7,23,24,25] [.i a1,.mp 0 0 0,.ms 3 0 l3x_7.length,.sl false (a0.courses.map E_GCourse),.i (a0.courses.length:Int),.i (wr (l2_25 + 1))] ⟨[(3,.cells 2 (l3x_7.map E_GPlace)),(0,.cells 2 [E_GInstrument a0])],4⟩ _ (by kernel_rfl) cj0 ?_
       replace hl2:=Option.some.inj hl2; subst hl2
       exact ⟨_,rfl,pi [(1,3)],mkInto (ks:=[1,2,7,23,24,25]) (ys:=[.i a1,.mp 0 0 0,.ms 3 0 l3x_7.length,.sl false (a0.courses.map E_GCourse),.i (a0.courses.length:Int),.i (wr (l2_25 + 1))]) (by kernel_rfl) (by kernel_rfl) (.k (.c rfl) (.k (.mp rfl rfl) (.k (.ms rfl rfl) (.k (.c (cleanMap _ _ cl_GCourse)) (.k (.c rfl) (.k (.c rfl) .z)))))) (.k (x':=.cells 2 (l3x_7.map E_GPlace)) (by kernel_rfl) (.cells (.r (cleanMap _ _ cl_GPlace))) (.k (x':=.cells 2 [E_GInstrument a0]) (by kernel_rfl) (.cells (.k (.c (cl_GInstrument a0)) .z)) .z))⟩
     ·refine run_cF 26 (c86 31) (c86 32) (decide (l2_25 < (a0.courses.length:Int))) hc5 (by kernel_rfl) (by kernel_rfl) ?_
      replace hl2:=Option.some.inj hl2; subst hl2
      have hr:=rl2 _ rfl
      subst hr
      refine awp_p [7] [1] (zipE [7] [.ms 1 0 l2_7.length]) ⟨[(1,.cells 2 (l2_7.map E_GPlace))],2⟩ (by kernel_rfl) (?_)
      refine run_e 0 (by kernel_rfl) ?_
      refine thenE ?_
      refine ⟨⟨_,rfl⟩,?_⟩
      refine inbE ?_
      exact kl2 l2_7 rfl
    ·rintro _ rfl
     refine thenN ?_
     refine run1z (c86 58) [] [4,5] [.ms 1 0 l2x_7.length,.i 0] ⟨[(1,.cells 2 (l2x_7.map E_GPlace))],2⟩ _ (by kernel_rfl) cj0 ?_
     refine run_z 1 2 (l2x_7.map E_GPlace) [4,5] [.ms 1 0 l2x_7.length,.i 0] (xs:=[.sl false (l2x_7.map E_GPlace),.i 0]) (S2:=⟨[],2⟩) ?_ (by kernel_rfl) (by kernel_rfl) (.k (.m (mLe l2x_7 E_GPlace) (mapAll l2x_7 E_GPlace)) (.k (.r _) .z)) .z rfl rfl
     refine run_t (by kernel_rfl) ?_
     replace h:=Option.some.inj h; subst h
     exact fin_r (by kernel_rfl) rfl
def f43 (a0:List (List GTone)) (a1:GInstrument) (a2:Int):Option Int:=(loopN (σ:=(Int × Int)) (τ:=Int) (fun ((l1_6,l1_15):(Int × Int))=>bif (decide (l1_15 < (a0.length:Int))) then ((ix a0 l1_15).bind fun y2=>(loopN (σ:=(Int × Int)) (τ:=Int) (fun ((l2_6,l2_21):(Int × Int))=>bif (decide (l2_21 < (y2.length:Int))) then ((((ix y2 l2_21).bind fun y4=>(f86 a1 (wr (y4.pitch + a2))).bind fun r5=>((bif (decide (r5.2 ≠ 0)) then (some true) else (some (decide ((r5.1.length:Int) = 0)))):Option Bool).bind fun (j4_40:Bool)=>bif j4_40 then (some (wr (l2_6 + 1))) else (some l2_6)):Option Int).bind fun (j3_6:Int)=>some (.inl (j3_6,(wr (l2_21 + 1))))) else (some (.inr l2_6))) FUEL (l1_6,0)).bind fun (l2x_6:Int)=>some (.inl (l2x_6,(wr (l1_15 + 1))))) else (some (.inr l1_6))) FUEL (0,0)).bind fun (l1x_6:Int)=>some l1x_6
theorem f43_ok (a0:List (List GTone)) (a1:GInstrument) (a2:Int) (r:Int) (h:f43 a0 a1 a2 = some r):APure Tryz.prog 43 [.sl false (a0.map (SL E_GTone)),E_GInstrument a1,.i a2] (.i r):=by
 refine apure (clK (cleanMap a0 _ (cl_SL cl_GTone)) (clK (cl_GInstrument a1) (clK rfl clZ))) rfl ?_
 refine run_f 46 [.tmp 6] (c43 0) (zipE [0,1,2] [.sl false (a0.map (SL E_GTone)),E_GInstrument a1,.i a2]) (by kernel_rfl) (by kernel_rfl) (by kernel_rfl) rfl ?_
 unfold f43 at h
 refine run1z (c43 2) [] [0,2,4,6] [.sl false (a0.map (SL E_GTone)),.i a2,.mp 0 0 0,.i 0] ⟨[(0,.cells 2 [E_GInstrument a1])],1⟩ _ (by kernel_rfl) cj0 ?_
 refine run_s (c43 3) (c43 40) (by kernel_rfl) ?_
 refine run1z (c43 5) [{},{ k:=1,n:=a0.length }] [2,4,6,13,14,15] [.i a2,.mp 0 0 0,.i 0,.sl false (a0.map (SL E_GTone)),.i (a0.length:Int),.i 0] ⟨[(0,.cells 2 [E_GInstrument a1])],1⟩ _ (by kernel_rfl) (cj1 (mapLen a0 (SL E_GTone))) ?_
 obtain ⟨l1x_6,hll1x,h⟩:=bindE h
 refine run_tq (fun (l1x_6:Int)=>(zipE [6] [.i l1x_6])) (fun (l1x_6:Int)=>⟨[],1⟩) (fun j=>l1x_6 = j) (fun kl1=>?_) ?_
 ·refine run_b 0 (c43 6) (by kernel_rfl) ?_
  refine run_l (c43 7) _ hll1x (fun ((l1_6,l1_15):(Int × Int))=>(zipE [2,4,6,13,14,15] [.i a2,.mp 0 0 0,.i l1_6,.sl false (a0.map (SL E_GTone)),.i (a0.length:Int),.i l1_15])) (fun ((l1_6,l1_15):(Int × Int))=>⟨[(0,.cells 2 [E_GInstrument a1])],1⟩) [] (by intro i e; cases e <;> exact Nat.le_of_ble_eq_true rfl) (by kernel_rfl) (mkInto (ks:=[2,4,6,13,14,15]) (ys:=[.i a2,.mp 0 0 0,.i 0,.sl false (a0.map (SL E_GTone)),.i (a0.length:Int),.i 0]) (by kernel_rfl) (by kernel_rfl) (.k (.c rfl) (.k (.mp rfl rfl) (.k (.c rfl) (.k (.c (cleanMap _ _ (cl_SL cl_GTone))) (.k (.c rfl) (.k (.c rfl) .z)))))) (.k (x':=.cells 2 [E_GInstrument a1]) (by kernel_rfl) (.cells (.k (.c (cl_GInstrument a1)) .z)) .z)) ?_
  rintro ⟨l1_6,l1_15⟩ out hl1 rl1
  refine run1z (c43 9) [] [2,4,6,13,14,15,16] [.i a2,.mp 0 0 0,.i l1_6,.sl false (a0.map (SL E_GTone)),.i (a0.length:Int),.i l1_15,.bool (decide (l1_15 < (a0.length:Int)))] ⟨[(0,.cells 2 [E_GInstrument a1])],1⟩ _ (by kernel_rfl) cj0 ?_
  refine run_s (c43 10) (c43 13) (by kernel_rfl) ?_
  rcases iteE hl1 with ⟨hc1,hl1⟩ | ⟨hc1,hl1⟩
  ·refine run_cT 16 (c43 11) (c43 12) (decide (l1_15 < (a0.length:Int))) hc1 (by kernel_rfl) (by kernel_rfl) ?_
   refine run_k (by kernel_rfl) ?_
   refine thenN ?_
   refine run_s (c43 14) (c43 39) (by kernel_rfl) ?_
   refine run_b 1 (c43 15) (by kernel_rfl) ?_
   obtain ⟨y2,hy2,hl1⟩:=bindE hl1
   refine run1z (c43 17) [{ k:=1,x:=(SL E_GTone) y2 }] [2,4,6,8,13,14,15] [.i a2,.mp 0 0 0,.i l1_6,.sl false (y2.map E_GTone),.sl false (a0.map (SL E_GTone)),.i (a0.length:Int),.i l1_15] ⟨[(0,.cells 2 [E_GInstrument a1])],1⟩ _ (by kernel_rfl) (cjC ((ixE hy2).1) (cj1 (mapGet (SL E_GTone) (ixE hy2).2))) ?_
   refine run1z (c43 19) [{},{ k:=1,n:=y2.length }] [2,4,6,13,14,15,19,20,21] [.i a2,.mp 0 0 0,.i l1_6,.sl false (a0.map (SL E_GTone)),.i (a0.length:Int),.i l1_15,.sl false (y2.map E_GTone),.i (y2.length:Int),.i 0] ⟨[(0,.cells 2 [E_GInstrument a1])],1⟩ _ (by kernel_rfl) (cj1 (mapLen y2 E_GTone)) ?_
   obtain ⟨l2x_6,hll2x,hl1⟩:=bindE hl1
   refine run_tq (fun (l2x_6:Int)=>(zipE [2,4,6,13,14,15] [.i a2,.mp 0 0 0,.i l2x_6,.sl false (a0.map (SL E_GTone)),.i (a0.length:Int),.i l1_15])) (fun (l2x_6:Int)=>⟨[(0,.cells 2 [E_GInstrument a1])],1⟩) (fun j=>l2x_6 = j) (fun kl2=>?_) ?_
   ·refine run_b 2 (c43 20) (by kernel_rfl) ?_
    refine run_l (c43 21) _ hll2x (fun ((l2_6,l2_21):(Int × Int))=>(zipE [2,4,6,13,14,15,19,20,21] [.i a2,.mp 0 0 0,.i l2_6,.sl false (a0.map (SL E_GTone)),.i (a0.length:Int),.i l1_15,.sl false (y2.map E_GTone),.i (y2.length:Int),.i l2_21])) (fun ((l2_6,l2_21):(Int × Int))=>⟨[(0,.cells 2 [E_GInstrument a1])],1⟩) [] (by intro i e; cases e <;> exact Nat.le_of_ble_eq_true rfl) (by kernel_rfl) (mkInto (ks:=[2,4,6,13,14,15,19,20,21]) (ys:=[.i a2,.mp 0 0 0,.i l1_6,.sl false (a0.map (SL E_GTone)),.i (a0.length:Int),.i l1_15,.sl false (y2.map E_GTone),.i (y2.length:Int),.i 0]) (by kernel_rfl) (by kernel_rfl) (.k (.c rfl) (.k (.mp rfl rfl) (.k (.c rfl) (.k (.c (cleanMap _ _ (cl_SL cl_GTone))) (.k (.c rfl) (.k (.c rfl) (.k (.c (cleanMap _ _ cl_GTone)) (.k (.c rfl) (.k (.c rfl) .z))))))))) (.k (x':=.cells 2 [E_GInstrument a1]) (by kernel_rfl) (.cells (.k (.c (cl_GInstrument a1)) .z)) .z)) ?_
    rintro ⟨l2_6,l2_21⟩ out hl2 rl2
    refine run1z (c43 23) [] [2,4,6,13,14,15,19,20,21,22] [.i a2,.mp 0 0 0,.i l2_6,.sl false (a0.map (SL E_GTone)),.i (a0.length:Int),.i l1_15,.sl false (y2.map E_GTone),.i (y2.length:Int),.i l2_21,.bool (decide (l2_21 < (y2.length:Int)))] ⟨[(0,.cells 2 [E_GInstrument a1])],1⟩ _ (by kernel_rfl) cj0 ?_
    refine run_s (c43 24) (c43 27) (by kernel_rfl) ?_
    rcases iteE hl2 with ⟨hc3,hl2⟩ | ⟨hc3,hl2⟩
    ·refine run_cT 22 (c43 25) (c43 26) (decide (l2_21 < (y2.length:Int))) hc3 (by kernel_rfl) (by kernel_rfl) ?_
     refine run_k (by kernel_rfl) ?_
     refine thenN ?_
     obtain ⟨j3_6,hj3,hl2⟩:=bindE hl2
     refine run_jq (c43 28) (c43 38) (fun (j3_6:Int)=>(zipE [2,4,6,13,14,15,19,20,21] [.i a2,.mp 0 0 0,.i j3_6,.sl false (a0.map (SL E_GTone)),.i (a0.length:Int),.i l1_15,.sl false (y2.map E_GTone),.i (y2.length:Int),.i l2_21])) (fun (j3_6:Int)=>⟨[(0,.cells 2 [E_GInstrument a1])],2⟩) (fun j=>j3_6 = j) (by kernel_rfl) (fun kj3=>?_) ?_
     ·refine run_b 3 (c43 29) (by kernel_rfl) ?_
      obtain ⟨y4,hy4,hj3⟩:=bindE hj3
      refine run1z (c43 31) [{ k:=1,x:=E_GTone y4 }] [2,4,6,10,13,14,15,19,20,21] [.i a2,.mp 0 0 0,.i l2_6,.mp 1 0 0,.sl false (a0.map (SL E_GTone)),.i (a0.length:Int),.i l1_15,.sl false (y2.map E_GTone),.i (y2.length:Int),.i l2_21] ⟨[(1,.cells 3 [E_GTone y4]),(0,.cells 2 [E_GInstrument a1])],2⟩ _ (by kernel_rfl) (cjC ((ixE hy4).1) (cj1 (mapGet E_GTone (ixE hy4).2))) ?_
      obtain ⟨r5,hr5,hj3⟩:=bindE hj3
      refine run1z (c43 33) [{},{},{},{},{},{ c:=some (.tup [.sl false (r5.1.map E_GPlace),.i r5.2],⟨[(1,.cells 3 [E_GTone y4]),(0,.cells 2 [E_GInstrument a1])],2⟩) }] [2,4,6,11,12,13,14,15,19,20,21] [.i a2,.mp 0 0 0,.i l2_6,.sl false (r5.1.map E_GPlace),.i r5.2,.sl false (a0.map (SL E_GTone)),.i (a0.length:Int),.i l1_15,.sl false (y2.map E_GTone),.i (y2.length:Int),.i l2_21] ⟨[(0,.cells 2 [E_GInstrument a1])],2⟩ _ (by kernel_rfl) (cj1 (f86_ok a1 (wr (y4.pitch + a2)) _ hr5 ⟨[(1,.cells 3 [E_GTone y4]),(0,.cells 2 [E_GInstrument a1])],2⟩)) ?_
      obtain ⟨j4_40,hj4,hj3⟩:=bindE hj3
      refine run_gq (c43 35) (fun (j4_40:Bool)=>(zipE [2,4,6,13,14,15,19,20,21,40] [.i a2,.mp 0 0 0,.i l2_6,.sl false (a0.map (SL E_GTone)),.i (a0.length:Int),.i l1_15,.sl false (y2.map E_GTone),.i (y2.length:Int),.i l2_21,.bool j4_40])) (fun (j4_40:Bool)=>⟨[(0,.cells 2 [E_GInstrument a1])],2⟩) (fun j=>j4_40 = j) (fun kj4=>?_) ?_
      ·rcases iteE hj4 with ⟨hc6,hj4⟩ | ⟨hc6,hj4⟩
       ·replace hj4:=Option.some.inj hj4; subst hj4
        exact run1z (c43 35) [{},{},{},{ g:=false },{ g:=false },{ g:=false },{ k:=1,b:=true }] [2,4,6,13,14,15,19,20,21,40] [.i a2,.mp 0 0 0,.i l2_6,.sl false (a0.map (SL E_GTone)),.i (a0.length:Int),.i l1_15,.sl false (y2.map E_GTone),.i (y2.length:Int),.i l2_21,.bool true] ⟨[(0,.cells 2 [E_GInstrument a1])],2⟩ _ (by kernel_rfl) (cjC (hc6) (cjC (hc6) (cjC (hc6) (cj1 (hc6))))) (kj4 true rfl)
       ·replace hj4:=Option.some.inj hj4; subst hj4
        exact run1z (c43 35) [{},{},{},{},{ k:=1,n:=r5.1.length },{},{ k:=1,b:=false }] [2,4,6,13,14,15,19,20,21,40] [.i a2,.mp 0 0 0,.i l2_6,.sl false (a0.map (SL E_GTone)),.i (a0.length:Int),.i l1_15,.sl false (y2.map E_GTone),.i (y2.length:Int),.i l2_21,.bool (decide ((r5.1.length:Int) = 0))] ⟨[(0,.cells 2 [E_GInstrument a1])],2⟩ _ (by kernel_rfl) (cjC (hc6) (cjC (hc6) (cjC (mapLen r5.1 E_GPlace) (cjC (hc6) (cj1 (hc6)))))) (kj4 (decide ((r5.1.length:Int) = 0)) rfl)
      ·rintro _ rfl
       rcases iteE hj3 with ⟨hc7,hj3⟩ | ⟨hc7,hj3⟩
       ·refine run_cT 40 (c43 36) (c43 37) j4_40 hc7 (by kernel_rfl) (by kernel_rfl) ?_
        refine run0z [] [2,4,6,13,14,15,19,20,21] [.i a2,.mp 0 0 0,.i (wr (l2_6 + 1)),.sl false (a0.map (SL E_GTone)),.i (a0.length:Int),.i l1_15,.sl false (y2.map E_GTone),.i (y2.length:Int),.i l2_21] ⟨[(0,.cells 2 [E_GInstrument a1])],2⟩ _ (by kernel_rfl) cj0 ?_
        replace hj3:=Option.some.inj hj3; subst hj3
        refine inbN ?_
        refine thenN ?_
        exact kj3 (wr (l2_6 + 1)) rfl
       ·refine run_cF 40 (c43 36) (c43 37) j4_40 hc7 (by kernel_rfl) (by kernel_rfl) ?_
        replace hj3:=Option.some.inj hj3; subst hj3
        refine awp_p [2,4,6,13,14,15,19,20,21] [0] (zipE [2,4,6,13,14,15,19,20,21] [.i a2,.mp 0 0 0,.i l2_6,.sl false (a0.map (SL E_GTone)),.i (a0.length:Int),.i l1_15,.sl false (y2.map E_GTone),.i (y2.length:Int),.i l2_21]) ⟨[(0,.cells 2 [E_GInstrument a1])],2⟩ (by kernel_rfl) (?_)
        refine run_k (by kernel_rfl) ?_
        refine inbN ?_
        refine thenN ?_
        exact kj3 l2_6 rfl
     ·rintro _ rfl
      refine run0z [] [2,4,6,13,14,15,19,20,21] [.i a2,.mp 0 0 0,.i j3_6,.sl false (a0.map (SL E_GTone)),.i (a0.length:Int),.i l1_15,.sl false (y2.map E_GTone),.i (y2.length:Int),.i (wr (l2_21 + 1))] ⟨[(0,.cells 2 [E_GInstrument a1])],2⟩ _ (by kernel_rfl) cj0 ?_
      replace hl2:=Option.some.inj hl2; subst hl2
      exact ⟨_,rfl,pi [],mkInto (ks:=[2,4,6,13,14,15,19,20,21]) (ys:=[.i a2,.mp 0 0 0,.i j3_6,.sl false (a0.map (SL E_GTone)),.i (a0.length:Int),.i l1_15,.sl false (y2.map E_GTone),.i (y2.length:Int),.i (wr (l2_21 + 1))]) (by kernel_rfl) (by kernel_rfl) (.k (.c rfl) (.k (.mp rfl rfl) (.k (.c rfl) (.k (.c (cleanMap _ _ (cl_SL cl_GTone))) (.k (.c rfl) (.k (.c rfl) (.k (.c (cleanMap _ _ cl_GTone)) (.k (.c rfl) (.k (.c rfl) .z))))))))) (.k (x':=.cells 2 [E_GInstrument a1]) (by kernel_rfl) (.cells (.k (.c (cl_GInstrument a1)) .z)) .z)⟩
    ·refine run_cF 22 (c43 25) (c43 26) (decide (l2_21 < (y2.length:Int))) hc3 (by kernel_rfl) (by kernel_rfl) ?_
     replace hl2:=Option.some.inj hl2; subst hl2
     have hr:=rl2 _ rfl
     subst hr
     refine awp_p [2,4,6,13,14,15] [0] (zipE [2,4,6,13,14,15] [.i a2,.mp 0 0 0,.i l2_6,.sl false (a0.map (SL E_GTone)),.i (a0.length:Int),.i l1_15]) ⟨[(0,.cells 2 [E_GInstrument a1])],1⟩ (by kernel_rfl) (?_)
     refine run_e 2 (by kernel_rfl) ?_
     refine thenE ?_
     refine ⟨⟨_,rfl⟩,?_⟩
     refine inbE ?_
     exact kl2 l2_6 rfl
   ·rintro _ rfl
    refine inbN ?_
    refine thenN ?_
    refine run0z [] [2,4,6,13,14,15] [.i a2,.mp 0 0 0,.i l2x_6,.sl false (a0.map (SL E_GTone)),.i (a0.length:Int),.i (wr (l1_15 + 1))] ⟨[(0,.cells 2 [E_GInstrument a1])],1⟩ _ (by kernel_rfl) cj0 ?_
    replace hl1:=Option.some.inj hl1; subst hl1
    exact ⟨_,rfl,pi [],mkInto (ks:=[2,4,6,13,14,15]) (ys:=[.i a2,.mp 0 0 0,.i l2x_6,.sl false (a0.map (SL E_GTone)),.i (a0.length:Int),.i (wr (l1_15 + 1))]) (by kernel_rfl) (by kernel_rfl) (.k (.c rfl) (.k (.mp rfl rfl) (.k (.c rfl) (.k (.c (cleanMap _ _ (cl_SL cl_GTone))) (.k (.c rfl) (.k (.c rfl) .z)))))) (.k (x':=.cells 2 [E_GInstrument a1]) (by kernel_rfl) (.cells (.k (.c (cl_GInstrument a1)) .z)) .z)⟩
  ·refine run_cF 16 (c43 11) (c43 12) (decide (l1_15 < (a0.length:Int))) hc1 (by kernel_rfl) (by kernel_rfl) ?_
   replace hl1:=Option.some.inj hl1; subst hl1
   have hr:=rl1 _ rfl
   subst hr
   refine awp_p [6] [] (zipE [6] [.i l1_6]) ⟨[],1⟩ (by kernel_rfl) (?_)
   refine run_e 0 (by kernel_rfl) ?_
   refine thenE ?_
   refine ⟨⟨_,rfl⟩,?_⟩
   refine inbE ?_
   exact kl1 l1_6 rfl
 ·rintro _ rfl
  refine thenN ?_
  refine run1z (c43 42) [] [6] [.i l1x_6] ⟨[],1⟩ _ (by kernel_rfl) cj0 ?_
  refine run_t (by kernel_rfl) ?_
  replace h:=Option.some.inj h; subst h
  exact fin_r (by kernel_rfl) rfl
def f14 (a0:List (List GTone)) (a1:GInstrument):Option (Int × Int × Int):=(f42 a0 a1).bind fun r1=>bif (decide (r1 ≠ 0)) then (some (0,0,r1)) else ((f43 a0 a1 0).bind fun r3=>(loopN (σ:=(Int × Int × Int)) (τ:=(Int × Int)) (fun ((l1_4,l1_5,l1_8):(Int × Int × Int))=>bif (decide (l1_8 ≤ 24)) then ((loopN (σ:=(Int × Int × Int)) (τ:=(Int × Int)) (fun ((l2_4,l2_5,l2_30):(Int × Int × Int))=>bif (decide (l2_30 < 2)) then ((((ix ([l1_8,(wr (0 - l1_8))]:List Int) l2_30).bind fun y6=>(f43 a0 a1 y6).bind fun r7=>bif (decide (r7 < l2_5)) then (some (y6,r7)) else (some (l2_4,l2_5))):Option (Int × Int)).bind fun ((j3_4,j3_5):(Int × Int))=>some (.inl (j3_4,j3_5,(wr (l2_30 + 1))))) else (some (.inr (l2_4,l2_5)))) FUEL (l1_4,l1_5,0)).bind fun ((l2x_4,l2x_5):(Int × Int))=>some (.inl (l2x_4,l2x_5,(wr (l1_8 + 1))))) else (some (.inr (l1_4,l1_5)))) FUEL (0,r3,1)).bind fun ((l1x_4,l1x_5):(Int × Int))=>some (l1x_4,l1x_5,0))
theorem f14_ok (a0:List (List GTone)) (a1:GInstrument) (r:(Int × Int × Int)) (h:f14 a0 a1 = some r):APure Tryz.prog 14 [.sl false (a0.map (SL E_GTone)),E_GInstrument a1] (.tup [.i r.1,.i r.2.1,.i r.2.2]):=by
 refine apure (clK (cleanMap a0 _ (cl_SL cl_GTone)) (clK (cl_GInstrument a1) clZ)) (clK rfl (clK rfl (clK rfl clZ))) ?_
 refine run_f 46 [.tmp 4,.tmp 5,.tmp 6] (c14 0) (zipE [0,1] [.sl false (a0.map (SL E_GTone)),E_GInstrument a1]) (by kernel_rfl) (by kernel_rfl) (by kernel_rfl) rfl ?_
 unfold f14 at h
 refine run1z (c14 2) [] [0,3,4] [.sl false (a0.map (SL E_GTone)),.mp 0 0 0,.i 0] ⟨[(0,.cells 2 [E_GInstrument a1])],1⟩ _ (by kernel_rfl) cj0 ?_
 refine run_s (c14 3) (c14 12) (by kernel_rfl) ?_
 obtain ⟨r1,hr1,h⟩:=bindE h
 refine run1z (c14 5) [{},{},{ c:=some (.i r1,⟨[(0,.cells 2 [E_GInstrument a1])],1⟩) }] [0,3,4,7] [.sl false (a0.map (SL E_GTone)),.mp 0 0 0,.i 0,.i r1] ⟨[(0,.cells 2 [E_GInstrument a1])],1⟩ _ (by kernel_rfl) (cj1 (f42_ok a0 a1 _ hr1 ⟨[(0,.cells 2 [E_GInstrument a1])],1⟩)) ?_
 refine run1z (c14 7) [] [0,3,4,7,16] [.sl false (a0.map (SL E_GTone)),.mp 0 0 0,.i 0,.i r1,.bool (decide (r1 ≠ 0))] ⟨[(0,.cells 2 [E_GInstrument a1])],1⟩ _ (by kernel_rfl) cj0 ?_
 rcases iteE h with ⟨hc2,h⟩ | ⟨hc2,h⟩
 ·refine run_cT 16 (c14 8) (c14 11) (decide (r1 ≠ 0)) hc2 (by kernel_rfl) (by kernel_rfl) ?_
  refine run1z (c14 10) [] [4,5,6] [.i 0,.i 0,.i r1] ⟨[],1⟩ _ (by kernel_rfl) cj0 ?_
  refine run_t (by kernel_rfl) ?_
  refine thenR ?_
  replace h:=Option.some.inj h; subst h
  exact fin_r (by kernel_rfl) rfl
 ·refine run_cF 16 (c14 8) (c14 11) (decide (r1 ≠ 0)) hc2 (by kernel_rfl) (by kernel_rfl) ?_
  refine run_k (by kernel_rfl) ?_
  refine thenN ?_
  obtain ⟨r3,hr3,h⟩:=bindE h
  refine run1z (c14 14) [{},{},{ c:=some (.i r3,⟨[(0,.cells 2 [E_GInstrument a1])],1⟩) }] [0,3,4,5] [.sl false (a0.map (SL E_GTone)),.mp 0 0 0,.i 0,.i r3] ⟨[(0,.cells 2 [E_GInstrument a1])],1⟩ _ (by kernel_rfl) (cj1 (f43_ok a0 a1 0 _ hr3 ⟨[(0,.cells 2 [E_GInstrument a1])],1⟩)) ?_
  refine run_s (c14 15) (c14 50) (by kernel_rfl) ?_
  refine run1z (c14 17) [] [0,3,4,5,8] [.sl false (a0.map (SL E_GTone)),.mp 0 0 0,.i 0,.i r3,.i 1] ⟨[(0,.cells 2 [E_GInstrument a1])],1⟩ _ (by kernel_rfl) cj0 ?_
  obtain ⟨ol1x,hll1x,h⟩:=bindE h
  refine run_tq (fun ((l1x_4,l1x_5):(Int × Int))=>(zipE [4,5] [.i l1x_4,.i l1x_5])) (fun ((l1x_4,l1x_5):(Int × Int))=>⟨[],1⟩) (fun j=>ol1x = j) (fun kl1=>?_) ?_
  ·refine run_b 0 (c14 18) (by kernel_rfl) ?_
   refine run_l (c14 19) _ hll1x (fun ((l1_4,l1_5,l1_8):(Int × Int × Int))=>(zipE [0,3,4,5,8] [.sl false (a0.map (SL E_GTone)),.mp 0 0 0,.i l1_4,.i l1_5,.i l1_8])) (fun ((l1_4,l1_5,l1_8):(Int × Int × Int))=>⟨[(0,.cells 2 [E_GInstrument a1])],1⟩) [] (by intro i e; cases e <;> exact Nat.le_of_ble_eq_true rfl) (by kernel_rfl) (mkInto (ks:=[0,3,4,5,8]) (ys:=[.sl false (a0.map (SL E_GTone)),.mp 0 0 0,.i 0,.i r3,.i 1]) (by kernel_rfl) (by kernel_rfl) (.k (.c (cleanMap _ _ (cl_SL cl_GTone))) (.k (.mp rfl rfl) (.k (.c rfl) (.k (.c rfl) (.k (.c rfl) .z))))) (.k (x':=.cells 2 [E_GInstrument a1]) (by kernel_rfl) (.cells (.k (.c (cl_GInstrument a1)) .z)) .z)) ?_
   rintro ⟨l1_4,l1_5,l1_8⟩ out hl1 rl1
   refine run_s (c14 20) (c14 25) (by kernel_rfl) ?_
   refine run1z (c14 22) [] [0,3,4,5,8,22] [.sl false (a0.map (SL E_GTone)),.mp 0 0 0,.i l1_4,.i l1_5,.i l1_8,.bool (decide (l1_8 ≤ 24))] ⟨[(0,.cells 2 [E_GInstrument a1])],1⟩ _ (by kernel_rfl) cj0 ?_
   rcases iteE hl1 with ⟨hc4,hl1⟩ | ⟨hc4,hl1⟩
   ·refine run_cT 22 (c14 23) (c14 24) (decide (l1_8 ≤ 24)) hc4 (by kernel_rfl) (by kernel_rfl) ?_
    refine run_k (by kernel_rfl) ?_
    refine thenN ?_
    refine run_s (c14 26) (c14 49) (by kernel_rfl) ?_
    refine run_b 1 (c14 27) (by kernel_rfl) ?_
    refine run1z (c14 29) [] [0,3,4,5,8,28,29,30] [.sl false (a0.map (SL E_GTone)),.mp 0 0 0,.i l1_4,.i l1_5,.i l1_8,.sl true [.i l1_8,.i (wr (0 - l1_8))],.i 2,.i 0] ⟨[(0,.cells 2 [E_GInstrument a1])],1⟩ _ (by kernel_rfl) cj0 ?_
    obtain ⟨ol2x,hll2x,hl1⟩:=bindE hl1
    refine run_tq (fun ((l2x_4,l2x_5):(Int × Int))=>(zipE [0,3,4,5,8] [.sl false (a0.map (SL E_GTone)),.mp 0 0 0,.i l2x_4,.i l2x_5,.i l1_8])) (fun ((l2x_4,l2x_5):(Int × Int))=>⟨[(0,.cells 2 [E_GInstrument a1])],1⟩) (fun j=>ol2x = j) (fun kl2=>?_) ?_
    ·refine run_b 2 (c14 30) (by kernel_rfl) ?_
     refine run_l (c14 31) _ hll2x (fun ((l2_4,l2_5,l2_30):(Int × Int × Int))=>(zipE [0,3,4,5,8,28,29,30] [.sl false (a0.map (SL E_GTone)),.mp 0 0 0,.i l2_4,.i l2_5,.i l1_8,.sl true [.i l1_8,.i (wr (0 - l1_8))],.i 2,.i l2_30])) (fun ((l2_4,l2_5,l2_30):(Int × Int × Int))=>⟨[(0,.cells 2 [E_GInstrument a1])],1⟩) [] (by intro i e; cases e <;> exact Nat.le_of_ble_eq_true rfl) (by kernel_rfl) (mkInto (ks:=[0,3,4,5,8,28,29,30]) (ys:=[.sl false (a0.map (SL E_GTone)),.mp 0 0 0,.i l1_4,.i l1_5,.i l1_8,.sl true [.i l1_8,.i (wr (0 - l1_8))],.i 2,.i 0]) (by kernel_rfl) (by kernel_rfl) (.k (.c (cleanMap _ _ (cl_SL cl_GTone))) (.k (.mp rfl rfl) (.k (.c rfl) (.k (.c rfl) (.k (.c rfl) (.k (.c rfl) (.k (.c rfl) (.k (.c rfl) .z)))))))) (.k (x':=.cells 2 [E_GInstrument a1]) (by kernel_rfl) (.cells (.k (.c (cl_GInstrument a1)) .z)) .z)) ?_
     rintro ⟨l2_4,l2_5,l2_30⟩ out hl2 rl2
     refine run1z (c14 33) [] [0,3,4,5,8,28,29,30,31] [.sl false (a0.map (SL E_GTone)),.mp 0 0 0,.i l2_4,.i l2_5,.i l1_8,.sl true [.i l1_8,.i (wr (0 - l1_8))],.i 2,.i l2_30,.bool (decide (l2_30 < 2))] ⟨[(0,.cells 2 [E_GInstrument a1])],1⟩ _ (by kernel_rfl) cj0 ?_
     refine run_s (c14 34) (c14 37) (by kernel_rfl) ?_
     rcases iteE hl2 with ⟨hc5,hl2⟩ | ⟨hc5,hl2⟩
     ·refine run_cT 31 (c14 35) (c14 36) (decide (l2_30 < 2)) hc5 (by kernel_rfl) (by kernel_rfl) ?_
      refine run_k (by kernel_rfl) ?_
      refine thenN ?_
      obtain ⟨oj3,hj3,hl2⟩:=bindE hl2
      refine run_jq (c14 38) (c14 48) (fun ((j3_4,j3_5):(Int × Int))=>(zipE [0,3,4,5,8,28,29,30] [.sl false (a0.map (SL E_GTone)),.mp 0 0 0,.i j3_4,.i j3_5,.i l1_8,.sl true [.i l1_8,.i (wr (0 - l1_8))],.i 2,.i l2_30])) (fun ((j3_4,j3_5):(Int × Int))=>⟨[(0,.cells 2 [E_GInstrument a1])],1⟩) (fun j=>oj3 = j) (by kernel_rfl) (fun kj3=>?_) ?_
      ·refine run_b 3 (c14 39) (by kernel_rfl) ?_
       obtain ⟨y6,hy6,hj3⟩:=bindE hj3
       refine run1z (c14 41) [{ k:=1,x:=AV.i y6 }] [0,3,4,5,8,10,28,29,30] [.sl false (a0.map (SL E_GTone)),.mp 0 0 0,.i l2_4,.i l2_5,.i l1_8,.i y6,.sl true [.i l1_8,.i (wr (0 - l1_8))],.i 2,.i l2_30] ⟨[(0,.cells 2 [E_GInstrument a1])],1⟩ _ (by kernel_rfl) (cjC ((ixE hy6).1) (cj1 (mapGet AV.i (ixE hy6).2))) ?_
       obtain ⟨r7,hr7,hj3⟩:=bindE hj3
       refine run1z (c14 43) [{},{},{},{ c:=some (.i r7,⟨[(0,.cells 2 [E_GInstrument a1])],1⟩) }] [0,3,4,5,8,10,11,28,29,30] [.sl false (a0.map (SL E_GTone)),.mp 0 0 0,.i l2_4,.i l2_5,.i l1_8,.i y6,.i r7,.sl true [.i l1_8,.i (wr (0 - l1_8))],.i 2,.i l2_30] ⟨[(0,.cells 2 [E_GInstrument a1])],1⟩ _ (by kernel_rfl) (cj1 (f43_ok a0 a1 y6 _ hr7 ⟨[(0,.cells 2 [E_GInstrument a1])],1⟩)) ?_
       refine run1z (c14 45) [] [0,3,4,5,8,10,11,28,29,30,40] [.sl false (a0.map (SL E_GTone)),.mp 0 0 0,.i l2_4,.i l2_5,.i l1_8,.i y6,.i r7,.sl true [.i l1_8,.i (wr (0 - l1_8))],.i 2,.i l2_30,.bool (decide (r7 < l2_5))] ⟨[(0,.cells 2 [E_GInstrument a1])],1⟩ _ (by kernel_rfl) cj0 ?_
       rcases iteE hj3 with ⟨hc8,hj3⟩ | ⟨hc8,hj3⟩
       ·refine run_cT 40 (c14 46) (c14 47) (decide (r7 < l2_5)) hc8 (by kernel_rfl) (by kernel_rfl) ?_
        refine run0z [] [0,3,4,5,8,28,29,30] [.sl false (a0.map (SL E_GTone)),.mp 0 0 0,.i y6,.i r7,.i l1_8,.sl true [.i l1_8,.i (wr (0 - l1_8))],.i 2,.i l2_30] ⟨[(0,.cells 2 [E_GInstrument a1])],1⟩ _ (by kernel_rfl) cj0 ?_
        replace hj3:=Option.some.inj hj3; subst hj3
        refine inbN ?_
        refine thenN ?_
        exact kj3 (y6,r7) rfl
       ·refine run_cF 40 (c14 46) (c14 47) (decide (r7 < l2_5)) hc8 (by kernel_rfl) (by kernel_rfl) ?_
        replace hj3:=Option.some.inj hj3; subst hj3
        refine awp_p [0,3,4,5,8,28,29,30] [0] (zipE [0,3,4,5,8,28,29,30] [.sl false (a0.map (SL E_GTone)),.mp 0 0 0,.i l2_4,.i l2_5,.i l1_8,.sl true [.i l1_8,.i (wr (0 - l1_8))],.i 2,.i l2_30]) ⟨[(0,.cells 2 [E_GInstrument a1])],1⟩ (by kernel_rfl) (?_)
        refine run_k (by kernel_rfl) ?_
        refine inbN ?_
        refine thenN ?_
        exact kj3 (l2_4,l2_5) rfl
      ·rintro ⟨j3_4,j3_5⟩ rfl
       refine run0z [] [0,3,4,5,8,28,29,30] [.sl false (a0.map (SL E_GTone)),.mp 0 0 0,.i j3_4,.i j3_5,.i l1_8,.sl true [.i l1_8,.i (wr (0 - l1_8))],.i 2,.i (wr (l2_30 + 1))] ⟨[(0,.cells 2 [E_GInstrument a1])],1⟩ _ (by kernel_rfl) cj0 ?_
       replace hl2:=Option.some.inj hl2; subst hl2
       exact ⟨_,rfl,pi [],mkInto (ks:=[0,3,4,5,8,28,29,30]) (ys:=[.sl false (a0.map (SL E_GTone)),.mp 0 0 0,.i j3_4,.i j3_5,.i l1_8,.sl true [.i l1_8,.i (wr (0 - l1_8))],.i 2,.i (wr (l2_30 + 1))]) (by kernel_rfl) (by kernel_rfl) (.k (.c (cleanMap _ _ (cl_SL cl_GTone))) (.k (.mp rfl rfl) (.k (.c rfl) (.k (.c rfl) (.k (.c rfl) (.k (.c rfl) (.k (.c rfl) (.k (.c rfl) .z)))))))) (.k (x':=.cells 2 [E_GInstrument a1]) (by kernel_rfl) (.cells (.k (.c (cl_GInstrument a1)) .z)) .z)⟩
     ·refine run_cF 31 (c14 35) (c14 36) (decide (l2_30 < 2)) hc5 (by kernel_rfl) (by kernel_rfl) ?_
      replace hl2:=Option.some.inj hl2; subst hl2
      have hr:=rl2 _ rfl
      subst hr
      refine awp_p [0,3,4,5,8] [0] (zipE [0,3,4,5,8] [.sl false (a0.map (SL E_GTone)),.mp 0 0 0,.i l2_4,.i l2_5,.i l1_8]) ⟨[(0,.cells 2 [E_GInstrument a1])],1⟩ (by kernel_rfl) (?_)
      refine run_e 2 (by kernel_rfl) ?_
      refine thenE ?_
      refine ⟨⟨_,rfl⟩,?_⟩
      refine inbE ?_
      exact kl2 (l2_4,l2_5) rfl
    ·rintro ⟨l2x_4,l2x_5⟩ rfl
     refine inbN ?_
     refine thenN ?_
     refine run0z [] [0,3,4,5,8] [.sl false (a0.map (SL E_GTone)),.mp 0 0 0,.i l2x_4,.i l2x_5,.i (wr (l1_8 + 1))] ⟨[(0,.cells 2 [E_GInstrument a1])],1⟩ _ (by kernel_rfl) cj0 ?_
     replace hl1:=Option.some.inj hl1; subst hl1
     exact ⟨_,rfl,pi [],mkInto (ks:=[0,3,4,5,8]) (ys:=[.sl false (a0.map (SL E_GTone)),.mp 0 0 0,.i l2x_4,.i l2x_5,.i (wr (l1_8 + 1))]) (by kernel_rfl) (by kernel_rfl) (.k (.c (cleanMap _ _ (cl_SL cl_GTone))) (.k (.mp rfl rfl) (.k (.c rfl) (.k (.c rfl) (.k (.c rfl) .z))))) (.k (x':=.cells 2 [E_GInstrument a1]) (by kernel_rfl) (.cells (.k (.c (cl_GInstrument a1)) .z)) .z)⟩
   ·refine run_cF 22 (c14 23) (c14 24) (decide (l1_8 ≤ 24)) hc4 (by kernel_rfl) (by kernel_rfl) ?_
    replace hl1:=Option.some.inj hl1; subst hl1
    have hr:=rl1 _ rfl
    subst hr
    refine awp_p [4,5] [] (zipE [4,5] [.i l1_4,.i l1_5]) ⟨[],1⟩ (by kernel_rfl) (?_)
    refine run_e 0 (by kernel_rfl) ?_
    refine thenE ?_
    refine ⟨⟨_,rfl⟩,?_⟩
    refine inbE ?_
    exact kl1 (l1_4,l1_5) rfl
  ·rintro ⟨l1x_4,l1x_5⟩ rfl
   refine thenN ?_
   refine run1z (c14 52) [] [4,5,6] [.i l1x_4,.i l1x_5,.i 0] ⟨[],1⟩ _ (by kernel_rfl) cj0 ?_
   refine run_t (by kernel_rfl) ?_
   replace h:=Option.some.inj h; subst h
   exact fin_r (by kernel_rfl) rfl
def f19 (a0:List (List GTone)) (a1:GInstrument) (a2:Int):Option (Int × Int):=(f42 a0 a1).bind fun r1=>bif (decide (r1 ≠ 0)) then (some (0,r1)) else ((f48 a2 (-24) 24).bind fun r3=>bif (!r3) then (some (0,1)) else ((f43 a0 a1 a2).bind fun r5=>some (r5,0)))
def f20 (a0:Int) (a1:Int):Option Int:=need (a1 ≠ 0) <| some (Int.tmod (wr ((Int.tmod a0 a1) + a1)) a1)
def f4 (a0:List (List GTone)) (a1:GInstrument) (a2:Int):Option Bool:=(f12 a0).bind fun r1=>bif (!r1) then ((f13).bind fun r3=>some r3) else ((f14 a0 a1).bind fun r4=>bif (decide (r4.2.2 ≠ 0)) then ((f13).bind fun r6=>some r6) else (((bif (decide (r4.1 < -24)) then (some true) else (some (decide (24 < r4.1)))):Option Bool).bind fun (j1_32:Bool)=>bif j1_32 then (some false) else ((f19 a0 a1 r4.1).bind fun r9=>((bif (decide (r9.2 ≠ 0)) then (some true) else (some (decide (r9.1 ≠ r4.2.1)))):Option Bool).bind fun (j2_46:Bool)=>bif j2_46 then (some false) else ((f20 a2 49).bind fun r12=>(f19 a0 a1 (wr (r12 - 24))).bind fun r13=>((bif (decide ((maxI (wr (r12 - 24)) (wr (0 - (wr (r12 - 24))))) < (maxI r4.1 (wr (0 - r4.1))))) then (some true) else (bif (decide ((wr (r12 - 24)) = (wr (0 - r4.1)))) then (some (decide (r4.1 < 0))) else (some false))):Option Bool).bind fun (j3_12:Bool)=>((bif (decide (r13.2 = 0)) then (bif (decide (r4.2.1 ≤ r13.1)) then (bif (!j3_12) then ((f13).bind fun r19=>some r19) else (bif (decide (r4.2.1 < r13.1)) then ((f13).bind fun r21=>some r21) else (some false))) else (some false)) else (some false)):Option Bool).bind fun (j4_6:Bool)=>some j4_6))))
end Go.Proofs.YtplpfocfcppajaaGreat
