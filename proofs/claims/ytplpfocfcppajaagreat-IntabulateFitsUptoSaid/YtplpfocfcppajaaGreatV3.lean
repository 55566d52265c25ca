/-
 Functions of the program as Lean functions,and the walks. Written by a program of ours.
-/
import Derived.Test.YtplpfocfcppajaaGreatV6
import Derived.Test.YtplpfocfcppajaaGreatV4
import Derived.Test.YtplpfocfcppajaaGreatV5
namespace Go.Proofs.YtplpfocfcppajaaGreat
open Go Go.Am
set_option maxRecDepth 100000
set_option linter.all false
noncomputable def c15 (k:Nat):Code:=nthC (subs (Tryz.f15.body.getD .skip)) k
noncomputable def c88 (k:Nat):Code:=nthC (subs (Tryz.f88.body.getD .skip)) k
noncomputable def c89 (k:Nat):Code:=nthC (subs (Tryz.f89.body.getD .skip)) k
noncomputable def c46 (k:Nat):Code:=nthC (subs (Tryz.f46.body.getD .skip)) k
noncomputable def c16 (k:Nat):Code:=nthC (subs (Tryz.f16.body.getD .skip)) k
noncomputable def c92 (k:Nat):Code:=nthC (subs (Tryz.f92.body.getD .skip)) k
noncomputable def c93 (k:Nat):Code:=nthC (subs (Tryz.f93.body.getD .skip)) k
noncomputable def c47 (k:Nat):Code:=nthC (subs (Tryz.f47.body.getD .skip)) k
noncomputable def c17 (k:Nat):Code:=nthC (subs (Tryz.f17.body.getD .skip)) k
noncomputable def c3 (k:Nat):Code:=nthC (subs (Tryz.f3.body.getD .skip)) k
def f15 (a0:List (List GTone)) (a1:GInstrument):Option (Int × Int × Int):=(f38 a0).bind fun r1=>bif (decide (r1 ≠ 0)) then (some (0,0,r1)) else ((f44 a1).bind fun r3=>bif (decide (r3 ≠ 0)) then (some (0,0,r3)) else ((f45 a0 a1 0).bind fun r5=>(loopN (σ:=(Int × Int × Int)) (τ:=(Int × Int)) (fun ((l1_9,l1_10,l1_11):(Int × Int × Int))=>bif (decide (l1_11 ≤ 24)) then ((((((f45 a0 a1 l1_11).bind fun r7=>bif (decide (r7 < l1_10)) then (some (l1_11,r7)) else (some (l1_9,l1_10))):Option (Int × Int)).bind fun ((j3_9,j3_10):(Int × Int))=>(f45 a0 a1 (wr (0 - l1_11))).bind fun r9=>bif (decide (r9 < j3_10)) then (some ((wr (0 - l1_11)),r9)) else (some (j3_9,j3_10))):Option (Int × Int)).bind fun ((j2_9,j2_10):(Int × Int))=>some (.inl (j2_9,j2_10,(wr (l1_11 + 1))))) else (some (.inr (l1_9,l1_10)))) FUEL (0,r5,1)).bind fun ((l1x_9,l1x_10):(Int × Int))=>some (l1x_9,l1x_10,0)))
theorem f15_ok (a0:List (List GTone)) (a1:GInstrument) (r:(Int × Int × Int)) (h:f15 a0 a1 = some r):APure Tryz.prog 15 [.sl false (a0.map (SL E_GTone)),E_GInstrument a1] (.tup [.i r.1,.i r.2.1,.i r.2.2]):=by
 refine apure (clK (cleanMap a0 _ (cl_SL cl_GTone)) (clK (cl_GInstrument a1) clZ)) (clK rfl (clK rfl (clK rfl clZ))) ?_
 refine run_f 53 [.tmp 4,.tmp 5,.tmp 6] (c15 0) (zipE [0,1] [.sl false (a0.map (SL E_GTone)),E_GInstrument a1]) (by kernel_rfl) (by kernel_rfl) (by kernel_rfl) rfl ?_
 unfold f15 at h
 refine run1z (c15 2) [] [0,3] [.sl false (a0.map (SL E_GTone)),.mp 0 0 0] ⟨[(0,.cells 2 [E_GInstrument a1])],1⟩ _ (by kernel_rfl) cj0 ?_
 refine run_s (c15 3) (c15 12) (by kernel_rfl) ?_
 obtain ⟨r1,hr1,h⟩:=bindE h
 refine run1z (c15 5) [{},{ c:=some (.i r1,⟨[(0,.cells 2 [E_GInstrument a1])],1⟩) }] [0,3,7] [.sl false (a0.map (SL E_GTone)),.mp 0 0 0,.i r1] ⟨[(0,.cells 2 [E_GInstrument a1])],1⟩ _ (by kernel_rfl) (cj1 (f38_ok a0 _ hr1 ⟨[(0,.cells 2 [E_GInstrument a1])],1⟩)) ?_
 refine run1z (c15 7) [] [0,3,7,17] [.sl false (a0.map (SL E_GTone)),.mp 0 0 0,.i r1,.bool (decide (r1 ≠ 0))] ⟨[(0,.cells 2 [E_GInstrument a1])],1⟩ _ (by kernel_rfl) cj0 ?_
 rcases iteE h with ⟨hc2,h⟩ | ⟨hc2,h⟩
 ·refine run_cT 17 (c15 8) (c15 11) (decide (r1 ≠ 0)) hc2 (by kernel_rfl) (by kernel_rfl) ?_
  refine run1z (c15 10) [] [4,5,6] [.i 0,.i 0,.i r1] ⟨[],1⟩ _ (by kernel_rfl) cj0 ?_
  refine run_t (by kernel_rfl) ?_
  refine thenR ?_
  replace h:=Option.some.inj h; subst h
  exact fin_r (by kernel_rfl) rfl
 ·refine run_cF 17 (c15 8) (c15 11) (decide (r1 ≠ 0)) hc2 (by kernel_rfl) (by kernel_rfl) ?_
  refine run_k (by kernel_rfl) ?_
  refine thenN ?_
  refine run_s (c15 13) (c15 22) (by kernel_rfl) ?_
  obtain ⟨r3,hr3,h⟩:=bindE h
  refine run1z (c15 15) [{},{ c:=some (.i r3,⟨[(0,.cells 2 [E_GInstrument a1])],1⟩) }] [0,3,8] [.sl false (a0.map (SL E_GTone)),.mp 0 0 0,.i r3] ⟨[(0,.cells 2 [E_GInstrument a1])],1⟩ _ (by kernel_rfl) (cj1 (f44_ok a1 _ hr3 ⟨[(0,.cells 2 [E_GInstrument a1])],1⟩)) ?_
  refine run1z (c15 17) [] [0,3,8,22] [.sl false (a0.map (SL E_GTone)),.mp 0 0 0,.i r3,.bool (decide (r3 ≠ 0))] ⟨[(0,.cells 2 [E_GInstrument a1])],1⟩ _ (by kernel_rfl) cj0 ?_
  rcases iteE h with ⟨hc4,h⟩ | ⟨hc4,h⟩
  ·refine run_cT 22 (c15 18) (c15 21) (decide (r3 ≠ 0)) hc4 (by kernel_rfl) (by kernel_rfl) ?_
   refine run1z (c15 20) [] [4,5,6] [.i 0,.i 0,.i r3] ⟨[],1⟩ _ (by kernel_rfl) cj0 ?_
   refine run_t (by kernel_rfl) ?_
   refine thenR ?_
   replace h:=Option.some.inj h; subst h
   exact fin_r (by kernel_rfl) rfl
  ·refine run_cF 22 (c15 18) (c15 21) (decide (r3 ≠ 0)) hc4 (by kernel_rfl) (by kernel_rfl) ?_
   refine run_k (by kernel_rfl) ?_
   refine thenN ?_
   obtain ⟨r5,hr5,h⟩:=bindE h
   refine run1z (c15 24) [{},{},{ c:=some (.i r5,⟨[(0,.cells 2 [E_GInstrument a1])],1⟩) }] [0,3,9,10] [.sl false (a0.map (SL E_GTone)),.mp 0 0 0,.i 0,.i r5] ⟨[(0,.cells 2 [E_GInstrument a1])],1⟩ _ (by kernel_rfl) (cj1 (f45_ok a0 a1 0 _ hr5 ⟨[(0,.cells 2 [E_GInstrument a1])],1⟩)) ?_
   refine run_s (c15 25) (c15 53) (by kernel_rfl) ?_
   refine run1z (c15 27) [] [0,3,9,10,11] [.sl false (a0.map (SL E_GTone)),.mp 0 0 0,.i 0,.i r5,.i 1] ⟨[(0,.cells 2 [E_GInstrument a1])],1⟩ _ (by kernel_rfl) cj0 ?_
   obtain ⟨ol1x,hll1x,h⟩:=bindE h
   refine run_tq (fun ((l1x_9,l1x_10):(Int × Int))=>(zipE [9,10] [.i l1x_9,.i l1x_10])) (fun ((l1x_9,l1x_10):(Int × Int))=>⟨[],1⟩) (fun j=>ol1x = j) (fun kl1=>?_) ?_
   ·refine run_b 0 (c15 28) (by kernel_rfl) ?_
    refine run_l (c15 29) _ hll1x (fun ((l1_9,l1_10,l1_11):(Int × Int × Int))=>(zipE [0,3,9,10,11] [.sl false (a0.map (SL E_GTone)),.mp 0 0 0,.i l1_9,.i l1_10,.i l1_11])) (fun ((l1_9,l1_10,l1_11):(Int × Int × Int))=>⟨[(0,.cells 2 [E_GInstrument a1])],1⟩) [] (by intro i e; cases e <;> exact Nat.le_of_ble_eq_true rfl) (by kernel_rfl) (mkInto (ks:=[0,3,9,10,11]) (ys:=[.sl false (a0.map (SL E_GTone)),.mp 0 0 0,.i 0,.i r5,.i 1]) (by kernel_rfl) (by kernel_rfl) (.k (.c (cleanMap _ _ (cl_SL cl_GTone))) (.k (.mp rfl rfl) (.k (.c rfl) (.k (.c rfl) (.k (.c rfl) .z))))) (.k (x':=.cells 2 [E_GInstrument a1]) (by kernel_rfl) (.cells (.k (.c (cl_GInstrument a1)) .z)) .z)) ?_
    rintro ⟨l1_9,l1_10,l1_11⟩ out hl1 rl1
    refine run_s (c15 30) (c15 35) (by kernel_rfl) ?_
    refine run1z (c15 32) [] [0,3,9,10,11,28] [.sl false (a0.map (SL E_GTone)),.mp 0 0 0,.i l1_9,.i l1_10,.i l1_11,.bool (decide (l1_11 ≤ 24))] ⟨[(0,.cells 2 [E_GInstrument a1])],1⟩ _ (by kernel_rfl) cj0 ?_
    rcases iteE hl1 with ⟨hc6,hl1⟩ | ⟨hc6,hl1⟩
    ·refine run_cT 28 (c15 33) (c15 34) (decide (l1_11 ≤ 24)) hc6 (by kernel_rfl) (by kernel_rfl) ?_
     refine run_k (by kernel_rfl) ?_
     refine thenN ?_
     obtain ⟨oj2,hj2,hl1⟩:=bindE hl1
     refine run_jq (c15 36) (c15 52) (fun ((j2_9,j2_10):(Int × Int))=>(zipE [0,3,9,10,11] [.sl false (a0.map (SL E_GTone)),.mp 0 0 0,.i j2_9,.i j2_10,.i l1_11])) (fun ((j2_9,j2_10):(Int × Int))=>⟨[(0,.cells 2 [E_GInstrument a1])],1⟩) (fun j=>oj2 = j) (by kernel_rfl) (fun kj2=>?_) ?_
     ·refine run_b 1 (c15 37) (by kernel_rfl) ?_
      obtain ⟨oj3,hj3,hj2⟩:=bindE hj2
      refine run_jq (c15 38) (c15 45) (fun ((j3_9,j3_10):(Int × Int))=>(zipE [0,3,9,10,11] [.sl false (a0.map (SL E_GTone)),.mp 0 0 0,.i j3_9,.i j3_10,.i l1_11])) (fun ((j3_9,j3_10):(Int × Int))=>⟨[(0,.cells 2 [E_GInstrument a1])],1⟩) (fun j=>oj3 = j) (by kernel_rfl) (fun kj3=>?_) ?_
      ·obtain ⟨r7,hr7,hj3⟩:=bindE hj3
       refine run1z (c15 40) [{},{},{},{ c:=some (.i r7,⟨[(0,.cells 2 [E_GInstrument a1])],1⟩) }] [0,3,9,10,11,12] [.sl false (a0.map (SL E_GTone)),.mp 0 0 0,.i l1_9,.i l1_10,.i l1_11,.i r7] ⟨[(0,.cells 2 [E_GInstrument a1])],1⟩ _ (by kernel_rfl) (cj1 (f45_ok a0 a1 l1_11 _ hr7 ⟨[(0,.cells 2 [E_GInstrument a1])],1⟩)) ?_
       refine run1z (c15 42) [] [0,3,9,10,11,12,37] [.sl false (a0.map (SL E_GTone)),.mp 0 0 0,.i l1_9,.i l1_10,.i l1_11,.i r7,.bool (decide (r7 < l1_10))] ⟨[(0,.cells 2 [E_GInstrument a1])],1⟩ _ (by kernel_rfl) cj0 ?_
       rcases iteE hj3 with ⟨hc8,hj3⟩ | ⟨hc8,hj3⟩
       ·refine run_cT 37 (c15 43) (c15 44) (decide (r7 < l1_10)) hc8 (by kernel_rfl) (by kernel_rfl) ?_
        refine run0z [] [0,3,9,10,11] [.sl false (a0.map (SL E_GTone)),.mp 0 0 0,.i l1_11,.i r7,.i l1_11] ⟨[(0,.cells 2 [E_GInstrument a1])],1⟩ _ (by kernel_rfl) cj0 ?_
        replace hj3:=Option.some.inj hj3; subst hj3
        refine thenN ?_
        exact kj3 (l1_11,r7) rfl
       ·refine run_cF 37 (c15 43) (c15 44) (decide (r7 < l1_10)) hc8 (by kernel_rfl) (by kernel_rfl) ?_
        replace hj3:=Option.some.inj hj3; subst hj3
        refine awp_p [0,3,9,10,11] [0] (zipE [0,3,9,10,11] [.sl false (a0.map (SL E_GTone)),.mp 0 0 0,.i l1_9,.i l1_10,.i l1_11]) ⟨[(0,.cells 2 [E_GInstrument a1])],1⟩ (by kernel_rfl) (?_)
        refine run_k (by kernel_rfl) ?_
        refine thenN ?_
        exact kj3 (l1_9,l1_10) rfl
      ·rintro ⟨j3_9,j3_10⟩ rfl
       obtain ⟨r9,hr9,hj2⟩:=bindE hj2
       refine run1z (c15 47) [{},{},{},{},{ c:=some (.i r9,⟨[(0,.cells 2 [E_GInstrument a1])],1⟩) }] [0,3,9,10,11,13] [.sl false (a0.map (SL E_GTone)),.mp 0 0 0,.i j3_9,.i j3_10,.i l1_11,.i r9] ⟨[(0,.cells 2 [E_GInstrument a1])],1⟩ _ (by kernel_rfl) (cj1 (f45_ok a0 a1 (wr (0 - l1_11)) _ hr9 ⟨[(0,.cells 2 [E_GInstrument a1])],1⟩)) ?_
       refine run1z (c15 49) [] [0,3,9,10,11,13,47] [.sl false (a0.map (SL E_GTone)),.mp 0 0 0,.i j3_9,.i j3_10,.i l1_11,.i r9,.bool (decide (r9 < j3_10))] ⟨[(0,.cells 2 [E_GInstrument a1])],1⟩ _ (by kernel_rfl) cj0 ?_
       rcases iteE hj2 with ⟨hc10,hj2⟩ | ⟨hc10,hj2⟩
       ·refine run_cT 47 (c15 50) (c15 51) (decide (r9 < j3_10)) hc10 (by kernel_rfl) (by kernel_rfl) ?_
        refine run0z [] [0,3,9,10,11] [.sl false (a0.map (SL E_GTone)),.mp 0 0 0,.i (wr (0 - l1_11)),.i r9,.i l1_11] ⟨[(0,.cells 2 [E_GInstrument a1])],1⟩ _ (by kernel_rfl) cj0 ?_
        replace hj2:=Option.some.inj hj2; subst hj2
        refine inbN ?_
        refine thenN ?_
        exact kj2 ((wr (0 - l1_11)),r9) rfl
       ·refine run_cF 47 (c15 50) (c15 51) (decide (r9 < j3_10)) hc10 (by kernel_rfl) (by kernel_rfl) ?_
        replace hj2:=Option.some.inj hj2; subst hj2
        refine awp_p [0,3,9,10,11] [0] (zipE [0,3,9,10,11] [.sl false (a0.map (SL E_GTone)),.mp 0 0 0,.i j3_9,.i j3_10,.i l1_11]) ⟨[(0,.cells 2 [E_GInstrument a1])],1⟩ (by kernel_rfl) (?_)
        refine run_k (by kernel_rfl) ?_
        refine inbN ?_
        refine thenN ?_
        exact kj2 (j3_9,j3_10) rfl
     ·rintro ⟨j2_9,j2_10⟩ rfl
      refine run0z [] [0,3,9,10,11] [.sl false (a0.map (SL E_GTone)),.mp 0 0 0,.i j2_9,.i j2_10,.i (wr (l1_11 + 1))] ⟨[(0,.cells 2 [E_GInstrument a1])],1⟩ _ (by kernel_rfl) cj0 ?_
      replace hl1:=Option.some.inj hl1; subst hl1
      exact ⟨_,rfl,pi [],mkInto (ks:=[0,3,9,10,11]) (ys:=[.sl false (a0.map (SL E_GTone)),.mp 0 0 0,.i j2_9,.i j2_10,.i (wr (l1_11 + 1))]) (by kernel_rfl) (by kernel_rfl) (.k (.c (cleanMap _ _ (cl_SL cl_GTone))) (.k (.mp rfl rfl) (.k (.c rfl) (.k (.c rfl) (.k (.c rfl) .z))))) (.k (x':=.cells 2 [E_GInstrument a1]) (by kernel_rfl) (.cells (.k (.c (cl_GInstrument a1)) .z)) .z)⟩
    ·refine run_cF 28 (c15 33) (c15 34) (decide (l1_11 ≤ 24)) hc6 (by kernel_rfl) (by kernel_rfl) ?_
     replace hl1:=Option.some.inj hl1; subst hl1
     have hr:=rl1 _ rfl
     subst hr
     refine awp_p [9,10] [] (zipE [9,10] [.i l1_9,.i l1_10]) ⟨[],1⟩ (by kernel_rfl) (?_)
     refine run_e 0 (by kernel_rfl) ?_
     refine thenE ?_
     refine ⟨⟨_,rfl⟩,?_⟩
     refine inbE ?_
     exact kl1 (l1_9,l1_10) rfl
   ·rintro ⟨l1x_9,l1x_10⟩ rfl
    refine thenN ?_
    refine run1z (c15 55) [] [4,5,6] [.i l1x_9,.i l1x_10,.i 0] ⟨[],1⟩ _ (by kernel_rfl) cj0 ?_
    refine run_t (by kernel_rfl) ?_
    replace h:=Option.some.inj h; subst h
    exact fin_r (by kernel_rfl) rfl
def f122 (a1:Int):Option (List GTone):=if 0 ≤ a1 ∧ a1 ≤ 4194304 then some [] else none
theorem f122_ok (a1:Int) (r:List GTone) (h:f122 a1 = some r):ACalls Tryz.prog 122 [.sl true [],.i a1] ⟨[],0⟩ (fun y t=>y = .ms 0 0 r.length ∧ t = ⟨[(0,.cells 3 (r.map E_GTone))],1⟩):=by
 unfold f122 at h
 split at h
 ·rename_i hl; cases h; exact grow_calls lay_grow Tryz.t53 _ (by kernel_rfl) rfl (by decide) rfl (by decide) a1 hl.1 hl.2
 ·cases h
def f88 (a0:List (List GTone)):Option ((List GTone)):=(loopN (σ:=(Int × Int)) (τ:=Int) (fun ((l1_3,l1_11):(Int × Int))=>bif (decide (l1_11 < (a0.length:Int))) then ((((ix a0 l1_11).bind fun y2=>bif (decide ((wr (l1_3 + (y2.length:Int))) < 0)) then (none) else (some (wr (l1_3 + (y2.length:Int))))):Option Int).bind fun (j2_3:Int)=>some (.inl (j2_3,(wr (l1_11 + 1))))) else (some (.inr l1_3))) FUEL (0,0)).bind fun (l1x_3:Int)=>(f122 l1x_3).bind fun r4=>(loopN (σ:=(List GTone × Int)) (τ:=(List GTone)) (fun ((l3_6,l3_27):(List GTone × Int))=>bif (decide (l3_27 < (a0.length:Int))) then ((ix a0 l3_27).bind fun y6=>((bif (decide (y6 = [])) then (some l3_6) else (need (l3_6.length + y6.length ≤ maxElems) <| some (l3_6 ++ y6))):Option (List GTone)).bind fun (j4_6:(List GTone))=>some (.inl (j4_6,(wr (l3_27 + 1))))) else (some (.inr l3_6))) FUEL (r4,0)).bind fun (l3x_6:(List GTone))=>some l3x_6
theorem f88_ok (a0:List (List GTone)) (r:((List GTone))) (h:f88 a0 = some r):APure Tryz.prog 88 [.sl false (a0.map (SL E_GTone))] (.sl false (r.map E_GTone)):=by
 refine apure (clK (cleanMap a0 _ (cl_SL cl_GTone)) clZ) (cleanMap r _ cl_GTone) ?_
 refine run_f 36 [.tmp 2] (c88 0) (zipE [0] [.sl false (a0.map (SL E_GTone))]) (by kernel_rfl) (by kernel_rfl) (by kernel_rfl) rfl ?_
 unfold f88 at h
 refine run1z (c88 2) [] [0] [.sl false (a0.map (SL E_GTone))] ⟨[],0⟩ _ (by kernel_rfl) cj0 ?_
 refine run1z (c88 4) [] [0,3] [.sl false (a0.map (SL E_GTone)),.i 0] ⟨[],0⟩ _ (by kernel_rfl) cj0 ?_
 refine run_s (c88 5) (c88 27) (by kernel_rfl) ?_
 refine run1z (c88 7) [{},{ k:=1,n:=a0.length }] [0,3,9,10,11] [.sl false (a0.map (SL E_GTone)),.i 0,.sl false (a0.map (SL E_GTone)),.i (a0.length:Int),.i 0] ⟨[],0⟩ _ (by kernel_rfl) (cj1 (mapLen a0 (SL E_GTone))) ?_
 obtain ⟨l1x_3,hll1x,h⟩:=bindE h
 refine run_tq (fun (l1x_3:Int)=>(zipE [0,3] [.sl false (a0.map (SL E_GTone)),.i l1x_3])) (fun (l1x_3:Int)=>⟨[],0⟩) (fun j=>l1x_3 = j) (fun kl1=>?_) ?_
 ·refine run_b 0 (c88 8) (by kernel_rfl) ?_
  refine run_l (c88 9) _ hll1x (fun ((l1_3,l1_11):(Int × Int))=>(zipE [0,3,9,10,11] [.sl false (a0.map (SL E_GTone)),.i l1_3,.sl false (a0.map (SL E_GTone)),.i (a0.length:Int),.i l1_11])) (fun ((l1_3,l1_11):(Int × Int))=>⟨[],0⟩) [] (by intro i e; cases e <;> exact Nat.le_of_ble_eq_true rfl) (by kernel_rfl) (mkInto (ks:=[0,3,9,10,11]) (ys:=[.sl false (a0.map (SL E_GTone)),.i 0,.sl false (a0.map (SL E_GTone)),.i (a0.length:Int),.i 0]) (by kernel_rfl) (by kernel_rfl) (.k (.c (cleanMap _ _ (cl_SL cl_GTone))) (.k (.c rfl) (.k (.c (cleanMap _ _ (cl_SL cl_GTone))) (.k (.c rfl) (.k (.c rfl) .z))))) .z) ?_
  rintro ⟨l1_3,l1_11⟩ out hl1 rl1
  refine run1z (c88 11) [] [0,3,9,10,11,12] [.sl false (a0.map (SL E_GTone)),.i l1_3,.sl false (a0.map (SL E_GTone)),.i (a0.length:Int),.i l1_11,.bool (decide (l1_11 < (a0.length:Int)))] ⟨[],0⟩ _ (by kernel_rfl) cj0 ?_
  refine run_s (c88 12) (c88 15) (by kernel_rfl) ?_
  rcases iteE hl1 with ⟨hc1,hl1⟩ | ⟨hc1,hl1⟩
  ·refine run_cT 12 (c88 13) (c88 14) (decide (l1_11 < (a0.length:Int))) hc1 (by kernel_rfl) (by kernel_rfl) ?_
   refine run_k (by kernel_rfl) ?_
   refine thenN ?_
   obtain ⟨j2_3,hj2,hl1⟩:=bindE hl1
   refine run_jq (c88 16) (c88 26) (fun (j2_3:Int)=>(zipE [0,3,9,10,11] [.sl false (a0.map (SL E_GTone)),.i j2_3,.sl false (a0.map (SL E_GTone)),.i (a0.length:Int),.i l1_11])) (fun (j2_3:Int)=>⟨[],0⟩) (fun j=>j2_3 = j) (by kernel_rfl) (fun kj2=>?_) ?_
   ·refine run_b 1 (c88 17) (by kernel_rfl) ?_
    obtain ⟨y2,hy2,hj2⟩:=bindE hj2
    refine run1z (c88 19) [{ k:=1,x:=(SL E_GTone) y2 }] [0,3,5,9,10,11] [.sl false (a0.map (SL E_GTone)),.i l1_3,.sl false (y2.map E_GTone),.sl false (a0.map (SL E_GTone)),.i (a0.length:Int),.i l1_11] ⟨[],0⟩ _ (by kernel_rfl) (cjC ((ixE hy2).1) (cj1 (mapGet (SL E_GTone) (ixE hy2).2))) ?_
    refine run1z (c88 21) [{},{},{ k:=1,n:=y2.length }] [0,3,9,10,11] [.sl false (a0.map (SL E_GTone)),.i (wr (l1_3 + (y2.length:Int))),.sl false (a0.map (SL E_GTone)),.i (a0.length:Int),.i l1_11] ⟨[],0⟩ _ (by kernel_rfl) (cj1 (mapLen y2 E_GTone)) ?_
    refine run1z (c88 23) [] [0,3,9,10,11,20] [.sl false (a0.map (SL E_GTone)),.i (wr (l1_3 + (y2.length:Int))),.sl false (a0.map (SL E_GTone)),.i (a0.length:Int),.i l1_11,.bool (decide ((wr (l1_3 + (y2.length:Int))) < 0))] ⟨[],0⟩ _ (by kernel_rfl) cj0 ?_
    rcases iteE hj2 with ⟨hc3,hj2⟩ | ⟨hc3,hj2⟩
    ·refine run_cT 20 (c88 24) (c88 25) (decide ((wr (l1_3 + (y2.length:Int))) < 0)) hc3 (by kernel_rfl) (by kernel_rfl) ?_
     cases hj2
    ·refine run_cF 20 (c88 24) (c88 25) (decide ((wr (l1_3 + (y2.length:Int))) < 0)) hc3 (by kernel_rfl) (by kernel_rfl) ?_
     replace hj2:=Option.some.inj hj2; subst hj2
     refine awp_p [0,3,9,10,11] [] (zipE [0,3,9,10,11] [.sl false (a0.map (SL E_GTone)),.i (wr (l1_3 + (y2.length:Int))),.sl false (a0.map (SL E_GTone)),.i (a0.length:Int),.i l1_11]) ⟨[],0⟩ (by kernel_rfl) (?_)
     refine run_k (by kernel_rfl) ?_
     refine inbN ?_
     refine thenN ?_
     exact kj2 (wr (l1_3 + (y2.length:Int))) rfl
   ·rintro _ rfl
    refine run0z [] [0,3,9,10,11] [.sl false (a0.map (SL E_GTone)),.i j2_3,.sl false (a0.map (SL E_GTone)),.i (a0.length:Int),.i (wr (l1_11 + 1))] ⟨[],0⟩ _ (by kernel_rfl) cj0 ?_
    replace hl1:=Option.some.inj hl1; subst hl1
    exact ⟨_,rfl,pi [],mkInto (ks:=[0,3,9,10,11]) (ys:=[.sl false (a0.map (SL E_GTone)),.i j2_3,.sl false (a0.map (SL E_GTone)),.i (a0.length:Int),.i (wr (l1_11 + 1))]) (by kernel_rfl) (by kernel_rfl) (.k (.c (cleanMap _ _ (cl_SL cl_GTone))) (.k (.c rfl) (.k (.c (cleanMap _ _ (cl_SL cl_GTone))) (.k (.c rfl) (.k (.c rfl) .z))))) .z⟩
  ·refine run_cF 12 (c88 13) (c88 14) (decide (l1_11 < (a0.length:Int))) hc1 (by kernel_rfl) (by kernel_rfl) ?_
   replace hl1:=Option.some.inj hl1; subst hl1
   have hr:=rl1 _ rfl
   subst hr
   refine awp_p [0,3] [] (zipE [0,3] [.sl false (a0.map (SL E_GTone)),.i l1_3]) ⟨[],0⟩ (by kernel_rfl) (?_)
   refine run_e 0 (by kernel_rfl) ?_
   refine thenE ?_
   refine ⟨⟨_,rfl⟩,?_⟩
   refine inbE ?_
   exact kl1 l1_3 rfl
 ·rintro _ rfl
  refine thenN ?_
  obtain ⟨r4,hr4,h⟩:=bindE h
  refine run1z (c88 29) [{},{ c:=some (.ms 0 0 r4.length,⟨[(0,.cells 3 (r4.map E_GTone))],1⟩) }] [0,6] [.sl false (a0.map (SL E_GTone)),.ms 0 0 r4.length] ⟨[(0,.cells 3 (r4.map E_GTone))],1⟩ _ (by kernel_rfl) (cj1 (callF (f122_ok l1x_3 _ hr4) [] [(0,0)] [] [.sl true [],.i l1x_3] ⟨[],0⟩ (.ms 0 0 r4.length) ⟨[(0,.cells 3 (r4.map E_GTone))],1⟩ (by kernel_rfl) (.k (.c rfl) (.k (.c rfl) .z)) (.ms rfl rfl) .z (.d (x':=.cells 3 (r4.map E_GTone)) rfl (by kernel_rfl) (.cells (.r (cleanMap _ _ cl_GTone))) .z))) ?_
  refine run_s (c88 30) (c88 46) (by kernel_rfl) ?_
  refine run1z (c88 32) [{},{ k:=1,n:=a0.length }] [6,25,26,27] [.ms 0 0 r4.length,.sl false (a0.map (SL E_GTone)),.i (a0.length:Int),.i 0] ⟨[(0,.cells 3 (r4.map E_GTone))],1⟩ _ (by kernel_rfl) (cj1 (mapLen a0 (SL E_GTone))) ?_
  obtain ⟨l3x_6,hll3x,h⟩:=bindE h
  refine run_tq (fun (l3x_6:(List GTone))=>(zipE [6] [.ms 1 0 l3x_6.length])) (fun (l3x_6:(List GTone))=>⟨[(1,.cells 3 (l3x_6.map E_GTone))],2⟩) (fun j=>l3x_6 = j) (fun kl3=>?_) ?_
  ·refine run_b 2 (c88 33) (by kernel_rfl) ?_
   refine run_l (c88 34) _ hll3x (fun ((l3_6,l3_27):(List GTone × Int))=>(zipE [6,25,26,27] [.ms 1 0 l3_6.length,.sl false (a0.map (SL E_GTone)),.i (a0.length:Int),.i l3_27])) (fun ((l3_6,l3_27):(List GTone × Int))=>⟨[(1,.cells 3 (l3_6.map E_GTone))],2⟩) [(1,0)] (by intro i e; cases e <;> exact Nat.le_of_ble_eq_true rfl) (by kernel_rfl) (mkInto (ks:=[6,25,26,27]) (ys:=[.ms 0 0 r4.length,.sl false (a0.map (SL E_GTone)),.i (a0.length:Int),.i 0]) (by kernel_rfl) (by kernel_rfl) (.k (.ms rfl rfl) (.k (.c (cleanMap _ _ (cl_SL cl_GTone))) (.k (.c rfl) (.k (.c rfl) .z)))) (.k (x':=.cells 3 (r4.map E_GTone)) (by kernel_rfl) (.cells (.r (cleanMap _ _ cl_GTone))) .z)) ?_
   rintro ⟨l3_6,l3_27⟩ out hl3 rl3
   refine run1z (c88 36) [] [6,25,26,27,28] [.ms 1 0 l3_6.length,.sl false (a0.map (SL E_GTone)),.i (a0.length:Int),.i l3_27,.bool (decide (l3_27 < (a0.length:Int)))] ⟨[(1,.cells 3 (l3_6.map E_GTone))],2⟩ _ (by kernel_rfl) cj0 ?_
   refine run_s (c88 37) (c88 40) (by kernel_rfl) ?_
   rcases iteE hl3 with ⟨hc5,hl3⟩ | ⟨hc5,hl3⟩
   ·refine run_cT 28 (c88 38) (c88 39) (decide (l3_27 < (a0.length:Int))) hc5 (by kernel_rfl) (by kernel_rfl) ?_
    refine run_k (by kernel_rfl) ?_
    refine thenN ?_
    refine run_s (c88 41) (c88 45) (by kernel_rfl) ?_
    refine run_b 3 (c88 42) (by kernel_rfl) ?_
    obtain ⟨y6,hy6,hl3⟩:=bindE hl3
    refine run1z (c88 44) [{ k:=1,x:=(SL E_GTone) y6 }] [6,8,25,26,27] [.ms 1 0 l3_6.length,.sl false (y6.map E_GTone),.sl false (a0.map (SL E_GTone)),.i (a0.length:Int),.i l3_27] ⟨[(1,.cells 3 (l3_6.map E_GTone))],2⟩ _ (by kernel_rfl) (cjC ((ixE hy6).1) (cj1 (mapGet (SL E_GTone) (ixE hy6).2))) ?_
    obtain ⟨j4_6,hj4,hl3⟩:=bindE hl3
    refine run_tq (fun (j4_6:(List GTone))=>(zipE [6,25,26,27] [.ms 3 0 j4_6.length,.sl false (a0.map (SL E_GTone)),.i (a0.length:Int),.i l3_27])) (fun (j4_6:(List GTone))=>⟨[(3,.cells 3 (j4_6.map E_GTone))],4⟩) (fun j=>j4_6 = j) (fun kj4=>?_) ?_
    ·rcases iteE hj4 with ⟨hc7,hj4⟩ | ⟨hc7,hj4⟩
     ·replace hj4:=Option.some.inj hj4; subst hj4
      refine awp_post (by intro i e; cases e <;> exact Nat.le_of_ble_eq_true rfl) ?_
      exact run0z [{},{},{ k:=2 }] [6,25,26,27] [.ms 1 0 l3_6.length,.sl false (a0.map (SL E_GTone)),.i (a0.length:Int),.i l3_27] ⟨[(1,.cells 3 (l3_6.map E_GTone))],2⟩ _ (by kernel_rfl) (cjC (mapNil E_GTone (of_decide_eq_true hc7)) (cj1 (fitsMap (P:=Tryz.prog) (t:=53) (k:=3) y6 E_GTone (by kernel_rfl) sz_GTone))) ⟨3,pi [(3,1)],_,_,Nat.le_of_ble_eq_true rfl,mkInto (ks:=[6,25,26,27]) (ys:=[.ms 1 0 l3_6.length,.sl false (a0.map (SL E_GTone)),.i (a0.length:Int),.i l3_27]) (by kernel_rfl) (by kernel_rfl) (.k (.ms rfl rfl) (.k (.c (cleanMap _ _ (cl_SL cl_GTone))) (.k (.c rfl) (.k (.c rfl) .z)))) (.k (x':=.cells 3 (l3_6.map E_GTone)) (by kernel_rfl) (.cells (.r (cleanMap _ _ cl_GTone))) .z),kj4 l3_6 rfl⟩
     ·obtain ⟨hn8,hj4⟩:=needE hj4
      replace hj4:=Option.some.inj hj4; subst hj4
      refine awp_post (by intro i e; cases e <;> exact Nat.le_of_ble_eq_true rfl) ?_
      exact run0z [{},{},{ k:=1,n:=(l3_6 ++ y6).length,l:=(l3_6 ++ y6).map E_GTone }] [6,25,26,27] [.ms 2 0 (l3_6 ++ y6).length,.sl false (a0.map (SL E_GTone)),.i (a0.length:Int),.i l3_27] ⟨[(2,.cells 3 ((l3_6 ++ y6).map E_GTone))],3⟩ _ (by kernel_rfl) (cjC (mapNe E_GTone (of_decide_eq_false hc7)) (cjC (mLe l3_6 E_GTone) (cjC (bnd1 E_GTone hn8) (cjC (len1 l3_6 y6 E_GTone) (cjC (app1 l3_6 y6 E_GTone) (cj1 (fitsMap (P:=Tryz.prog) (t:=53) (k:=3) y6 E_GTone (by kernel_rfl) sz_GTone))))))) ⟨3,pi [(3,2)],_,_,Nat.le_of_ble_eq_true rfl,mkInto (ks:=[6,25,26,27]) (ys:=[.ms 2 0 (l3_6 ++ y6).length,.sl false (a0.map (SL E_GTone)),.i (a0.length:Int),.i l3_27]) (by kernel_rfl) (by kernel_rfl) (.k (.ms rfl rfl) (.k (.c (cleanMap _ _ (cl_SL cl_GTone))) (.k (.c rfl) (.k (.c rfl) .z)))) (.k (x':=.cells 3 ((l3_6 ++ y6).map E_GTone)) (by kernel_rfl) (.cells (.r (cleanMap _ _ cl_GTone))) .z),kj4 (l3_6 ++ y6) rfl⟩
    ·rintro _ rfl
     refine inbN ?_
     refine thenN ?_
     refine run0z [] [6,25,26,27] [.ms 3 0 j4_6.length,.sl false (a0.map (SL E_GTone)),.i (a0.length:Int),.i (wr (l3_27 + 1))] ⟨[(3,.cells 3 (j4_6.map E_GTone))],4⟩ _ (by kernel_rfl) cj0 ?_
     replace hl3:=Option.some.inj hl3; subst hl3
     exact ⟨_,rfl,pi [(1,3)],mkInto (ks:=[6,25,26,27]) (ys:=[.ms 3 0 j4_6.length,.sl false (a0.map (SL E_GTone)),.i (a0.length:Int),.i (wr (l3_27 + 1))]) (by kernel_rfl) (by kernel_rfl) (.k (.ms rfl rfl) (.k (.c (cleanMap _ _ (cl_SL cl_GTone))) (.k (.c rfl) (.k (.c rfl) .z)))) (.k (x':=.cells 3 (j4_6.map E_GTone)) (by kernel_rfl) (.cells (.r (cleanMap _ _ cl_GTone))) .z)⟩
   ·refine run_cF 28 (c88 38) (c88 39) (decide (l3_27 < (a0.length:Int))) hc5 (by kernel_rfl) (by kernel_rfl) ?_
    replace hl3:=Option.some.inj hl3; subst hl3
    have hr:=rl3 _ rfl
    subst hr
    refine awp_p [6] [1] (zipE [6] [.ms 1 0 l3_6.length]) ⟨[(1,.cells 3 (l3_6.map E_GTone))],2⟩ (by kernel_rfl) (?_)
    refine run_e 2 (by kernel_rfl) ?_
    refine thenE ?_
    refine ⟨⟨_,rfl⟩,?_⟩
    refine inbE ?_
    exact kl3 l3_6 rfl
  ·rintro _ rfl
   refine thenN ?_
   refine run1z (c88 48) [] [2] [.ms 1 0 l3x_6.length] ⟨[(1,.cells 3 (l3x_6.map E_GTone))],2⟩ _ (by kernel_rfl) cj0 ?_
   refine run_z 1 3 (l3x_6.map E_GTone) [2] [.ms 1 0 l3x_6.length] (xs:=[.sl false (l3x_6.map E_GTone)]) (S2:=⟨[],2⟩) ?_ (by kernel_rfl) (by kernel_rfl) (.k (.m (mLe l3x_6 E_GTone) (mapAll l3x_6 E_GTone)) .z) .z rfl rfl
   refine run_t (by kernel_rfl) ?_
   replace h:=Option.some.inj h; subst h
   exact fin_r (by kernel_rfl) rfl
def f89 (a0:GTone) (a1:GTone):Option Bool:=((bif (decide (a0.from_ ≤ a1.to_)) then (some (decide (a1.to_ < a0.to_))) else (some false)):Option Bool).bind fun (j1_3:Bool)=>some j1_3
theorem f89_ok (a0:GTone) (a1:GTone) (r:Bool) (h:f89 a0 a1 = some r):ACalls Tryz.prog 89 [E_GTone a0,.mp 0 0 0] ⟨[(0,.cells 3 [E_GTone a1])],1⟩ (fun y t=>y = .bool r ∧ t = ⟨[(0,.cells 3 [E_GTone a1])],2⟩):=by
 refine run_f 16 [.tmp 3] (c89 0) (zipE [0,1] [E_GTone a0,.mp 0 0 0]) (by kernel_rfl) (by kernel_rfl) (by kernel_rfl) rfl ?_
 unfold f89 at h
 refine run1z (c89 2) [] [1,2] [.mp 0 0 0,.mp 1 0 0] ⟨[(1,.cells 3 [E_GTone a0]),(0,.cells 3 [E_GTone a1])],2⟩ _ (by kernel_rfl) cj0 ?_
 obtain ⟨j1_3,hj1,h⟩:=bindE h
 refine run_gq (c89 4) (fun (j1_3:Bool)=>(zipE [3] [.bool j1_3])) (fun (j1_3:Bool)=>⟨[(0,.cells 3 [E_GTone a1])],2⟩) (fun j=>j1_3 = j) (fun kj1=>?_) ?_
 ·rcases iteE hj1 with ⟨hc1,hj1⟩ | ⟨hc1,hj1⟩
  ·replace hj1:=Option.some.inj hj1; subst hj1
   exact run1z (c89 4) [{},{},{},{},{},{},{},{},{},{},{},{ k:=1,b:=true }] [3] [.bool (decide (a1.to_ < a0.to_))] ⟨[(0,.cells 3 [E_GTone a1])],2⟩ _ (by kernel_rfl) (cjC (hc1) (cjC (hc1) (cjC (hc1) (cjC (hc1) (cjC (hc1) (cj1 (hc1))))))) (kj1 (decide (a1.to_ < a0.to_)) rfl)
  ·replace hj1:=Option.some.inj hj1; subst hj1
   exact run1z (c89 4) [{},{},{},{},{},{},{ g:=false },{ g:=false },{ g:=false },{ g:=false },{ g:=false },{ k:=1,b:=false }] [3] [.bool false] ⟨[(0,.cells 3 [E_GTone a1])],2⟩ _ (by kernel_rfl) (cjC (hc1) (cjC (hc1) (cjC (hc1) (cjC (hc1) (cjC (hc1) (cj1 (hc1))))))) (kj1 false rfl)
 ·rintro _ rfl
  refine run_t (by kernel_rfl) ?_
  replace h:=Option.some.inj h; subst h
  exact fin_p [0] ⟨[(0,.cells 3 [E_GTone a1])],2⟩ (by kernel_rfl) (by kernel_rfl) rfl ⟨rfl,rfl⟩
def f94_2 (a0:List GTone) (a1_0:GTone):Option Int:=(loopN (σ:=Int) (τ:=(Unit ⊕ Int)) (fun (l1_8:Int)=>bif (decide (l1_8 < (a0.length:Int))) then ((ix a0 l1_8).bind fun y2=>(f89 y2 a1_0).bind fun r3=>bif r3 then (some (.inr (.inr l1_8))) else (some (.inl (wr (l1_8 + 1))))) else (some (.inr (.inl ())))) FUEL 0).bind (Sum.elim (fun (_:Unit)=>some (-1)) some)
theorem f94_2_ok (a0:List GTone) (a1_0:GTone) (r:Int) (h:f94_2 a0 a1_0 = some r):ACalls Tryz.prog 94 [.sl false (a0.map E_GTone),.fn 89 [.mp 0 0 0]] ⟨[(0,.cells 3 [E_GTone a1_0])],1⟩ (fun y t=>y = .i r ∧ t = ⟨[(0,.cells 3 [E_GTone a1_0])],2⟩):=by
 refine run_f 19 [.tmp 4] (c94 0) (zipE [0,1] [.sl false (a0.map E_GTone),.fn 89 [.mp 0 0 0]]) (by kernel_rfl) (by kernel_rfl) (by kernel_rfl) rfl ?_
 unfold f94_2 at h
 refine run1z (c94 2) [] [0,1] [.sl false (a0.map E_GTone),.fn 89 [.mp 0 0 0]] ⟨[(0,.cells 3 [E_GTone a1_0])],1⟩ _ (by kernel_rfl) cj0 ?_
 refine run_s (c94 3) (c94 25) (by kernel_rfl) ?_
 refine run1z (c94 5) [{},{ k:=1,n:=a0.length }] [0,1,7,8] [.sl false (a0.map E_GTone),.fn 89 [.mp 0 0 0],.i (a0.length:Int),.i 0] ⟨[(0,.cells 3 [E_GTone a1_0])],1⟩ _ (by kernel_rfl) (cj1 (mapLen a0 E_GTone)) ?_
 obtain ⟨ol1x,hll1x,h⟩:=bindE h
 refine run_tq (fun (_:Unit)=>(zipE [] [])) (fun (_:Unit)=>⟨[(0,.cells 3 [E_GTone a1_0])],1⟩) (fun j=>ol1x = .inl j) (fun kl1=>?_) ?_
 ·refine run_b 0 (c94 6) (by kernel_rfl) ?_
  refine run_l (c94 7) _ hll1x (fun (l1_8:Int)=>(zipE [0,1,7,8] [.sl false (a0.map E_GTone),.fn 89 [.mp 0 0 0],.i (a0.length:Int),.i l1_8])) (fun (l1_8:Int)=>⟨[(0,.cells 3 [E_GTone a1_0])],1⟩) [] (by intro i e; cases e <;> exact Nat.le_of_ble_eq_true rfl) (by kernel_rfl) (mkInto (ks:=[0,1,7,8]) (ys:=[.sl false (a0.map E_GTone),.fn 89 [.mp 0 0 0],.i (a0.length:Int),.i 0]) (by kernel_rfl) (by kernel_rfl) (.k (.c (cleanMap _ _ cl_GTone)) (.k (.f (.k (.mp rfl rfl) .z)) (.k (.c rfl) (.k (.c rfl) .z)))) (.k (x':=.cells 3 [E_GTone a1_0]) (by kernel_rfl) (.cells (.k (.c (cl_GTone a1_0)) .z)) .z)) ?_
  rintro l1_8 out hl1 rl1
  refine run1z (c94 9) [] [0,1,7,8,9] [.sl false (a0.map E_GTone),.fn 89 [.mp 0 0 0],.i (a0.length:Int),.i l1_8,.bool (decide (l1_8 < (a0.length:Int)))] ⟨[(0,.cells 3 [E_GTone a1_0])],1⟩ _ (by kernel_rfl) cj0 ?_
  refine run_s (c94 10) (c94 13) (by kernel_rfl) ?_
  rcases iteE hl1 with ⟨hc1,hl1⟩ | ⟨hc1,hl1⟩
  ·refine run_cT 9 (c94 11) (c94 12) (decide (l1_8 < (a0.length:Int))) hc1 (by kernel_rfl) (by kernel_rfl) ?_
   refine run_k (by kernel_rfl) ?_
   refine thenN ?_
   refine run_s (c94 14) (c94 24) (by kernel_rfl) ?_
   refine run_b 1 (c94 15) (by kernel_rfl) ?_
   refine run1z (c94 17) [] [0,1,5,7,8] [.sl false (a0.map E_GTone),.fn 89 [.mp 0 0 0],.i l1_8,.i (a0.length:Int),.i l1_8] ⟨[(0,.cells 3 [E_GTone a1_0])],1⟩ _ (by kernel_rfl) cj0 ?_
   obtain ⟨y2,hy2,hl1⟩:=bindE hl1
   obtain ⟨r3,hr3,hl1⟩:=bindE hl1
   refine run1z (c94 19) [{},{},{},{ k:=1,x:=E_GTone y2 },{},{ c:=some (.bool r3,⟨[(0,.cells 3 [E_GTone a1_0])],2⟩) }] [0,1,5,7,8,16] [.sl false (a0.map E_GTone),.fn 89 [.mp 0 0 0],.i l1_8,.i (a0.length:Int),.i l1_8,.bool r3] ⟨[(0,.cells 3 [E_GTone a1_0])],2⟩ _ (by kernel_rfl) (cjC ((ixE hy2).1) (cjC (mapGet E_GTone (ixE hy2).2) (cj1 (callF (f89_ok y2 a1_0 _ hr3) [(0,0)] [(0,0)] [] [E_GTone y2,.mp 0 0 0] ⟨[(0,.cells 3 [E_GTone a1_0])],1⟩ (.bool r3) ⟨[(0,.cells 3 [E_GTone a1_0])],2⟩ (by kernel_rfl) (.k (.c (cl_GTone y2)) (.k (.mp rfl rfl) .z)) (.c rfl) (.k (x':=.cells 3 [E_GTone a1_0]) (by kernel_rfl) (.cells (.k (.c (cl_GTone a1_0)) .z)) .z) (.d (x':=.cells 3 [E_GTone a1_0]) rfl (by kernel_rfl) (.cells (.k (.c (cl_GTone a1_0)) .z)) .z))))) ?_
   rcases iteE hl1 with ⟨hc4,hl1⟩ | ⟨hc4,hl1⟩
   ·refine run_cT 16 (c94 20) (c94 23) r3 hc4 (by kernel_rfl) (by kernel_rfl) ?_
    refine run1z (c94 22) [] [4] [.i l1_8] ⟨[(0,.cells 3 [E_GTone a1_0])],2⟩ _ (by kernel_rfl) cj0 ?_
    replace hl1:=Option.some.inj hl1; subst hl1
    have hr:=rl1 _ rfl
    subst hr
    replace h:=elimR h
    refine run_t (by kernel_rfl) ?_
    refine inbR ?_
    refine thenR ?_
    refine ⟨⟨_,rfl⟩,?_⟩
    refine inbR ?_
    refine thenR ?_
    replace h:=Option.some.inj h; subst h
    exact fin_p [0] ⟨[(0,.cells 3 [E_GTone a1_0])],2⟩ (by kernel_rfl) (by kernel_rfl) rfl ⟨rfl,rfl⟩
   ·refine run_cF 16 (c94 20) (c94 23) r3 hc4 (by kernel_rfl) (by kernel_rfl) ?_
    refine run_k (by kernel_rfl) ?_
    refine inbN ?_
    refine thenN ?_
    refine run0z [] [0,1,7,8] [.sl false (a0.map E_GTone),.fn 89 [.mp 0 0 0],.i (a0.length:Int),.i (wr (l1_8 + 1))] ⟨[(0,.cells 3 [E_GTone a1_0])],2⟩ _ (by kernel_rfl) cj0 ?_
    replace hl1:=Option.some.inj hl1; subst hl1
    exact ⟨_,rfl,pi [],mkInto (ks:=[0,1,7,8]) (ys:=[.sl false (a0.map E_GTone),.fn 89 [.mp 0 0 0],.i (a0.length:Int),.i (wr (l1_8 + 1))]) (by kernel_rfl) (by kernel_rfl) (.k (.c (cleanMap _ _ cl_GTone)) (.k (.f (.k (.mp rfl rfl) .z)) (.k (.c rfl) (.k (.c rfl) .z)))) (.k (x':=.cells 3 [E_GTone a1_0]) (by kernel_rfl) (.cells (.k (.c (cl_GTone a1_0)) .z)) .z)⟩
  ·refine run_cF 9 (c94 11) (c94 12) (decide (l1_8 < (a0.length:Int))) hc1 (by kernel_rfl) (by kernel_rfl) ?_
   replace hl1:=Option.some.inj hl1; subst hl1
   have hr:=rl1 _ rfl
   subst hr
   refine awp_p [] [0] (zipE [] []) ⟨[(0,.cells 3 [E_GTone a1_0])],1⟩ (by kernel_rfl) (?_)
   refine run_e 0 (by kernel_rfl) ?_
   refine thenE ?_
   refine ⟨⟨_,rfl⟩,?_⟩
   refine inbE ?_
   exact kl1 () rfl
 ·rintro ⟨⟩ rfl
  replace h:=elimL h
  refine thenN ?_
  refine run1z (c94 27) [] [4] [.i (-1)] ⟨[(0,.cells 3 [E_GTone a1_0])],1⟩ _ (by kernel_rfl) cj0 ?_
  refine run_i 1 [] [4] [.i (-1)] (xs:=[.i (-1)]) (S2:=⟨[(0,.cells 3 [E_GTone a1_0])],2⟩) ?_ (by intro i e; cases e <;> exact Nat.le_of_ble_eq_true rfl) (by kernel_rfl) (by kernel_rfl) (by kernel_rfl) (.k (.c rfl) .z) (.k (x':=.cells 3 [E_GTone a1_0]) (by kernel_rfl) (.cells (.k (.c (cl_GTone a1_0)) .z)) .z)
  refine run_t (by kernel_rfl) ?_
  replace h:=Option.some.inj h; subst h
  exact fin_p [0] ⟨[(0,.cells 3 [E_GTone a1_0])],2⟩ (by kernel_rfl) (by kernel_rfl) rfl ⟨rfl,rfl⟩
def f53_2 (a0:List GTone) (a1_0:GTone):Option Bool:=(f94_2 a0 a1_0).bind fun r1=>some (decide (0 ≤ r1))
theorem f53_2_ok (a0:List GTone) (a1_0:GTone) (r:Bool) (h:f53_2 a0 a1_0 = some r):ACalls Tryz.prog 53 [.sl false (a0.map E_GTone),.fn 89 [.mp 0 0 0]] ⟨[(0,.cells 3 [E_GTone a1_0])],1⟩ (fun y t=>y = .bool r ∧ t = ⟨[(0,.cells 3 [E_GTone a1_0])],2⟩):=by
 refine run_f 9 [.tmp 4] (c53 0) (zipE [0,1] [.sl false (a0.map E_GTone),.fn 89 [.mp 0 0 0]]) (by kernel_rfl) (by kernel_rfl) (by kernel_rfl) rfl ?_
 unfold f53_2 at h
 refine run1z (c53 2) [] [0,1] [.sl false (a0.map E_GTone),.fn 89 [.mp 0 0 0]] ⟨[(0,.cells 3 [E_GTone a1_0])],1⟩ _ (by kernel_rfl) cj0 ?_
 obtain ⟨r1,hr1,h⟩:=bindE h
 refine run1z (c53 4) [{},{},{ c:=some (.i r1,⟨[(0,.cells 3 [E_GTone a1_0])],2⟩) }] [4] [.bool (decide (0 ≤ r1))] ⟨[(0,.cells 3 [E_GTone a1_0])],2⟩ _ (by kernel_rfl) (cj1 (callF (f94_2_ok a0 a1_0 _ hr1) [(0,0)] [(0,0)] [] [.sl false (a0.map E_GTone),.fn 89 [.mp 0 0 0]] ⟨[(0,.cells 3 [E_GTone a1_0])],1⟩ (.i r1) ⟨[(0,.cells 3 [E_GTone a1_0])],2⟩ (by kernel_rfl) (.k (.c (cleanMap _ _ cl_GTone)) (.k (.f (.k (.mp rfl rfl) .z)) .z)) (.c rfl) (.k (x':=.cells 3 [E_GTone a1_0]) (by kernel_rfl) (.cells (.k (.c (cl_GTone a1_0)) .z)) .z) (.d (x':=.cells 3 [E_GTone a1_0]) rfl (by kernel_rfl) (.cells (.k (.c (cl_GTone a1_0)) .z)) .z))) ?_
 refine run_t (by kernel_rfl) ?_
 replace h:=Option.some.inj h; subst h
 exact fin_p [0] ⟨[(0,.cells 3 [E_GTone a1_0])],2⟩ (by kernel_rfl) (by kernel_rfl) rfl ⟨rfl,rfl⟩
def f90 (a0:List Int):Option (List Int):=if 0 < a0.length ∧ a0.length ≤ 4194304 then some (sortS a0) else none
theorem f90_ok (a0:List Int) (r:List Int) (h:f90 a0 = some r):ACalls Tryz.prog 90 [.ms 0 0 a0.length] ⟨[(0,.cells 1 (a0.map AV.i))],1⟩ (fun y t=>y = .tup [] ∧ t = ⟨[(0,.cells 1 (r.map AV.i))],1⟩):=by
 unfold f90 at h
 split at h
 ·rename_i hl; cases h; exact sort_calls lay_sort a0 hl.1 hl.2
 ·cases h
theorem f90_len {a0 r:List Int} (h:f90 a0 = some r):r.length = a0.length:=by
 unfold f90 at h
 split at h
 ·cases h; exact sortS_len a0
 ·cases h
def f91 (a0:List Int):Option (List Int):=if 0 < a0.length ∧ a0.length ≤ 4194304 then some (Go.Lib.compact a0) else none
theorem f91_ok (a0:List Int) (r:List Int) (h:f91 a0 = some r):ACalls Tryz.prog 91 [.ms 0 0 a0.length] ⟨[(0,.cells 1 (a0.map AV.i))],1⟩ (fun y t=>y = .ms 0 0 r.length ∧ t = ⟨[(0,.cells 1 (r.map AV.i))],1⟩):=by
 unfold f91 at h
 split at h
 ·rename_i hl; cases h; exact compact_calls lay_compact a0 hl.1 hl.2 (compact_len a0)
 ·cases h
def f46 (a0:List (List GTone)):Option ((List Int)):=(f88 a0).bind fun r1=>(loopN (σ:=(List Int × Int)) (τ:=(List Int)) (fun ((l1_4,l1_12):(List Int × Int))=>bif (decide (l1_12 < (r1.length:Int))) then ((((ix r1 l1_12).bind fun y3=>need (l1_4.length + 1 ≤ maxElems) <| (f53_2 r1 y3).bind fun r5=>bif (!r5) then (need ((l1_4 ++ [y3.from_]).length + 1 ≤ maxElems) <| some ((l1_4 ++ [y3.from_]) ++ [y3.to_])) else (some (l1_4 ++ [y3.from_]))):Option (List Int)).bind fun (j2_4:(List Int))=>some (.inl (j2_4,(wr (l1_12 + 1))))) else (some (.inr l1_4))) FUEL (([0]:List Int),0)).bind fun (l1x_4:(List Int))=>(f90 l1x_4).bind fun r8=>(f91 (r8.take l1x_4.length)).bind fun r9=>some r9
theorem f46_ok (a0:List (List GTone)) (r:((List Int))) (h:f46 a0 = some r):APure Tryz.prog 46 [.sl false (a0.map (SL E_GTone))] (.sl false (r.map AV.i)):=by
 refine apure (clK (cleanMap a0 _ (cl_SL cl_GTone)) clZ) (cleanMap r _ cl_i) ?_
 refine run_f 35 [.tmp 2] (c46 0) (zipE [0] [.sl false (a0.map (SL E_GTone))]) (by kernel_rfl) (by kernel_rfl) (by kernel_rfl) rfl ?_
 unfold f46 at h
 refine run1z (c46 2) [] [0] [.sl false (a0.map (SL E_GTone))] ⟨[],0⟩ _ (by kernel_rfl) cj0 ?_
 obtain ⟨r1,hr1,h⟩:=bindE h
 refine run1z (c46 4) [{},{ c:=some (.sl false (r1.map E_GTone),⟨[],0⟩) }] [3] [.sl false (r1.map E_GTone)] ⟨[],0⟩ _ (by kernel_rfl) (cj1 (f88_ok a0 _ hr1 ⟨[],0⟩)) ?_
 refine run1z (c46 6) [{ k:=3,n:=([0]:List Int).length,l:=([0]:List Int).map AV.i }] [3,4] [.sl false (r1.map E_GTone),.ms 0 0 ([0]:List Int).length] ⟨[(0,.cells 1 (([0]:List Int).map AV.i))],1⟩ _ (by kernel_rfl) (cjC (@Eq.refl (List AV) (([0]:List Int).map AV.i)) (cj1 (@Eq.refl Nat (([0]:List Int).length)))) ?_
 refine run_s (c46 7) (c46 29) (by kernel_rfl) ?_
 refine run1z (c46 9) [{},{ k:=1,n:=r1.length }] [3,4,10,11,12] [.sl false (r1.map E_GTone),.ms 0 0 ([0]:List Int).length,.sl false (r1.map E_GTone),.i (r1.length:Int),.i 0] ⟨[(0,.cells 1 (([0]:List Int).map AV.i))],1⟩ _ (by kernel_rfl) (cj1 (mapLen r1 E_GTone)) ?_
 obtain ⟨l1x_4,hll1x,h⟩:=bindE h
 refine run_tq (fun (l1x_4:(List Int))=>(zipE [4] [.ms 1 0 l1x_4.length])) (fun (l1x_4:(List Int))=>⟨[(1,.cells 1 (l1x_4.map AV.i))],2⟩) (fun j=>l1x_4 = j) (fun kl1=>?_) ?_
 ·refine run_b 0 (c46 10) (by kernel_rfl) ?_
  refine run_l (c46 11) _ hll1x (fun ((l1_4,l1_12):(List Int × Int))=>(zipE [3,4,10,11,12] [.sl false (r1.map E_GTone),.ms 1 0 l1_4.length,.sl false (r1.map E_GTone),.i (r1.length:Int),.i l1_12])) (fun ((l1_4,l1_12):(List Int × Int))=>⟨[(1,.cells 1 (l1_4.map AV.i))],2⟩) [(1,0)] (by intro i e; cases e <;> exact Nat.le_of_ble_eq_true rfl) (by kernel_rfl) (mkInto (ks:=[3,4,10,11,12]) (ys:=[.sl false (r1.map E_GTone),.ms 0 0 ([0]:List Int).length,.sl false (r1.map E_GTone),.i (r1.length:Int),.i 0]) (by kernel_rfl) (by kernel_rfl) (.k (.c (cleanMap _ _ cl_GTone)) (.k (.ms rfl rfl) (.k (.c (cleanMap _ _ cl_GTone)) (.k (.c rfl) (.k (.c rfl) .z))))) (.k (x':=.cells 1 (([0]:List Int).map AV.i)) (by kernel_rfl) (.cells (.r (cleanMap _ _ cl_i))) .z)) ?_
  rintro ⟨l1_4,l1_12⟩ out hl1 rl1
  refine run1z (c46 13) [] [3,4,10,11,12,13] [.sl false (r1.map E_GTone),.ms 1 0 l1_4.length,.sl false (r1.map E_GTone),.i (r1.length:Int),.i l1_12,.bool (decide (l1_12 < (r1.length:Int)))] ⟨[(1,.cells 1 (l1_4.map AV.i))],2⟩ _ (by kernel_rfl) cj0 ?_
  refine run_s (c46 14) (c46 17) (by kernel_rfl) ?_
  rcases iteE hl1 with ⟨hc2,hl1⟩ | ⟨hc2,hl1⟩
  ·refine run_cT 13 (c46 15) (c46 16) (decide (l1_12 < (r1.length:Int))) hc2 (by kernel_rfl) (by kernel_rfl) ?_
   refine run_k (by kernel_rfl) ?_
   refine thenN ?_
   obtain ⟨j2_4,hj2,hl1⟩:=bindE hl1
   refine run_jq (c46 18) (c46 28) (fun (j2_4:(List Int))=>(zipE [3,4,10,11,12] [.sl false (r1.map E_GTone),.ms 6 0 j2_4.length,.sl false (r1.map E_GTone),.i (r1.length:Int),.i l1_12])) (fun (j2_4:(List Int))=>⟨[(6,.cells 1 (j2_4.map AV.i))],7⟩) (fun j=>j2_4 = j) (by kernel_rfl) (fun kj2=>?_) ?_
   ·refine run_b 1 (c46 19) (by kernel_rfl) ?_
    obtain ⟨y3,hy3,hj2⟩:=bindE hj2
    refine run1z (c46 21) [{ k:=1,x:=E_GTone y3 }] [3,4,6,10,11,12] [.sl false (r1.map E_GTone),.ms 1 0 l1_4.length,.mp 2 0 0,.sl false (r1.map E_GTone),.i (r1.length:Int),.i l1_12] ⟨[(2,.cells 3 [E_GTone y3]),(1,.cells 1 (l1_4.map AV.i))],3⟩ _ (by kernel_rfl) (cjC ((ixE hy3).1) (cj1 (mapGet E_GTone (ixE hy3).2))) ?_
    obtain ⟨hn4,hj2⟩:=needE hj2
    refine run1z (c46 23) [{},{},{},{},{ k:=1,n:=(l1_4 ++ [y3.from_]).length,l:=(l1_4 ++ [y3.from_]).map AV.i }] [3,4,6,10,11,12] [.sl false (r1.map E_GTone),.ms 3 0 (l1_4 ++ [y3.from_]).length,.mp 2 0 0,.sl false (r1.map E_GTone),.i (r1.length:Int),.i l1_12] ⟨[(3,.cells 1 ((l1_4 ++ [y3.from_]).map AV.i)),(2,.cells 3 [E_GTone y3])],4⟩ _ (by kernel_rfl) (cjC (@List.cons_ne_nil AV (.i y3.from_) []) (cjC (mLe l1_4 AV.i) (cjC (hn4) (cjC (lenA l1_4 ([y3.from_]:List Int)) (cjC (appA l1_4 ([y3.from_]:List Int) AV.i) (cj1 (fitsOne (P:=Tryz.prog) (t:=3) (x:=.i y3.from_) (r:=[]) (by kernel_rfl)))))))) ?_
    obtain ⟨r5,hr5,hj2⟩:=bindE hj2
    refine run1z (c46 25) [{},{},{ c:=some (.bool r5,⟨[(3,.cells 1 ((l1_4 ++ [y3.from_]).map AV.i)),(2,.cells 3 [E_GTone y3])],5⟩) }] [3,4,6,10,11,12,24] [.sl false (r1.map E_GTone),.ms 3 0 (l1_4 ++ [y3.from_]).length,.mp 2 0 0,.sl false (r1.map E_GTone),.i (r1.length:Int),.i l1_12,.bool (!r5)] ⟨[(3,.cells 1 ((l1_4 ++ [y3.from_]).map AV.i)),(2,.cells 3 [E_GTone y3])],5⟩ _ (by kernel_rfl) (cj1 (callF (f53_2_ok r1 y3 _ hr5) [(0,2)] [(2,0)] [3] [.sl false (r1.map E_GTone),.fn 89 [.mp 2 0 0]] ⟨[(3,.cells 1 ((l1_4 ++ [y3.from_]).map AV.i)),(2,.cells 3 [E_GTone y3])],4⟩ (.bool r5) ⟨[(3,.cells 1 ((l1_4 ++ [y3.from_]).map AV.i)),(2,.cells 3 [E_GTone y3])],5⟩ (by kernel_rfl) (.k (.c (cleanMap _ _ cl_GTone)) (.k (.f (.k (.mp rfl rfl) .z)) .z)) (.c rfl) (.k (x':=.cells 3 [E_GTone y3]) (by kernel_rfl) (.cells (.k (.c (cl_GTone y3)) .z)) .z) (.f rfl (by kernel_rfl) (.d (x':=.cells 3 [E_GTone y3]) rfl (by kernel_rfl) (.cells (.k (.c (cl_GTone y3)) .z)) .z)))) ?_
    rcases iteE hj2 with ⟨hc6,hj2⟩ | ⟨hc6,hj2⟩
    ·refine run_cT 24 (c46 26) (c46 27) (!r5) hc6 (by kernel_rfl) (by kernel_rfl) ?_
     obtain ⟨hn7,hj2⟩:=needE hj2
     refine run0z [{},{},{},{},{ k:=1,n:=((l1_4 ++ [y3.from_]) ++ [y3.to_]).length,l:=((l1_4 ++ [y3.from_]) ++ [y3.to_]).map AV.i }] [3,4,10,11,12] [.sl false (r1.map E_GTone),.ms 5 0 ((l1_4 ++ [y3.from_]) ++ [y3.to_]).length,.sl false (r1.map E_GTone),.i (r1.length:Int),.i l1_12] ⟨[(5,.cells 1 (((l1_4 ++ [y3.from_]) ++ [y3.to_]).map AV.i))],6⟩ _ (by kernel_rfl) (cjC (@List.cons_ne_nil AV (.i y3.to_) []) (cjC (mLe (l1_4 ++ [y3.from_]) AV.i) (cjC (hn7) (cjC (lenA (l1_4 ++ [y3.from_]) ([y3.to_]:List Int)) (cjC (appA (l1_4 ++ [y3.from_]) ([y3.to_]:List Int) AV.i) (cj1 (fitsOne (P:=Tryz.prog) (t:=3) (x:=.i y3.to_) (r:=[]) (by kernel_rfl)))))))) ?_
     replace hj2:=Option.some.inj hj2; subst hj2
     refine inbN ?_
     refine thenN ?_
     exact run_i 6 [(6,5)] [3,4,10,11,12] [.sl false (r1.map E_GTone),.ms 5 0 ((l1_4 ++ [y3.from_]) ++ [y3.to_]).length,.sl false (r1.map E_GTone),.i (r1.length:Int),.i l1_12] (kj2 ((l1_4 ++ [y3.from_]) ++ [y3.to_]) rfl) (by intro i e; cases e <;> exact Nat.le_of_ble_eq_true rfl) (by kernel_rfl) (by kernel_rfl) (by kernel_rfl) (.k (.c (cleanMap _ _ cl_GTone)) (.k (.ms rfl rfl) (.k (.c (cleanMap _ _ cl_GTone)) (.k (.c rfl) (.k (.c rfl) .z))))) (.k (x':=.cells 1 (((l1_4 ++ [y3.from_]) ++ [y3.to_]).map AV.i)) (by kernel_rfl) (.cells (.r (cleanMap _ _ cl_i))) .z)
    ·refine run_cF 24 (c46 26) (c46 27) (!r5) hc6 (by kernel_rfl) (by kernel_rfl) ?_
     replace hj2:=Option.some.inj hj2; subst hj2
     refine run_i 6 [(6,3)] [3,4,10,11,12] [.sl false (r1.map E_GTone),.ms 3 0 (l1_4 ++ [y3.from_]).length,.sl false (r1.map E_GTone),.i (r1.length:Int),.i l1_12] (xs:=[.sl false (r1.map E_GTone),.ms 6 0 (l1_4 ++ [y3.from_]).length,.sl false (r1.map E_GTone),.i (r1.length:Int),.i l1_12]) (S2:=⟨[(6,.cells 1 ((l1_4 ++ [y3.from_]).map AV.i))],7⟩) ?_ (by intro i e; cases e <;> exact Nat.le_of_ble_eq_true rfl) (by kernel_rfl) (by kernel_rfl) (by kernel_rfl) (.k (.c (cleanMap _ _ cl_GTone)) (.k (.ms rfl rfl) (.k (.c (cleanMap _ _ cl_GTone)) (.k (.c rfl) (.k (.c rfl) .z))))) (.k (x':=.cells 1 ((l1_4 ++ [y3.from_]).map AV.i)) (by kernel_rfl) (.cells (.r (cleanMap _ _ cl_i))) .z)
     refine run_k (by kernel_rfl) ?_
     refine inbN ?_
     refine thenN ?_
     exact kj2 (l1_4 ++ [y3.from_]) rfl
   ·rintro _ rfl
    refine run0z [] [3,4,10,11,12] [.sl false (r1.map E_GTone),.ms 6 0 j2_4.length,.sl false (r1.map E_GTone),.i (r1.length:Int),.i (wr (l1_12 + 1))] ⟨[(6,.cells 1 (j2_4.map AV.i))],7⟩ _ (by kernel_rfl) cj0 ?_
    replace hl1:=Option.some.inj hl1; subst hl1
    exact ⟨_,rfl,pi [(1,6)],mkInto (ks:=[3,4,10,11,12]) (ys:=[.sl false (r1.map E_GTone),.ms 6 0 j2_4.length,.sl false (r1.map E_GTone),.i (r1.length:Int),.i (wr (l1_12 + 1))]) (by kernel_rfl) (by kernel_rfl) (.k (.c (cleanMap _ _ cl_GTone)) (.k (.ms rfl rfl) (.k (.c (cleanMap _ _ cl_GTone)) (.k (.c rfl) (.k (.c rfl) .z))))) (.k (x':=.cells 1 (j2_4.map AV.i)) (by kernel_rfl) (.cells (.r (cleanMap _ _ cl_i))) .z)⟩
  ·refine run_cF 13 (c46 15) (c46 16) (decide (l1_12 < (r1.length:Int))) hc2 (by kernel_rfl) (by kernel_rfl) ?_
   replace hl1:=Option.some.inj hl1; subst hl1
   have hr:=rl1 _ rfl
   subst hr
   refine awp_p [4] [1] (zipE [4] [.ms 1 0 l1_4.length]) ⟨[(1,.cells 1 (l1_4.map AV.i))],2⟩ (by kernel_rfl) (?_)
   refine run_e 0 (by kernel_rfl) ?_
   refine thenE ?_
   refine ⟨⟨_,rfl⟩,?_⟩
   refine inbE ?_
   exact kl1 l1_4 rfl
 ·rintro _ rfl
  refine thenN ?_
  obtain ⟨r8,hr8,h⟩:=bindE h
  have hl8:=f90_len hr8
  refine run1z (c46 31) [{},{ c:=some (.tup [],⟨[(1,.cells 1 (r8.map AV.i))],2⟩) }] [4] [.ms 1 0 l1x_4.length] ⟨[(1,.cells 1 (r8.map AV.i))],2⟩ _ (by kernel_rfl) (cj1 (callF (f90_ok l1x_4 _ hr8) [(0,1)] [(1,0)] [] [.ms 1 0 l1x_4.length] ⟨[(1,.cells 1 (l1x_4.map AV.i))],2⟩ (.tup []) ⟨[(1,.cells 1 (r8.map AV.i))],2⟩ (by kernel_rfl) (.k (.ms rfl rfl) .z) (.t .z) (.k (x':=.cells 1 (l1x_4.map AV.i)) (by kernel_rfl) (.cells (.r (cleanMap _ _ cl_i))) .z) (.d (x':=.cells 1 (r8.map AV.i)) rfl (by kernel_rfl) (.cells (.r (cleanMap _ _ cl_i))) .z))) ?_
  refine run_i 2 [] [4] [.ms 1 0 l1x_4.length] (xs:=[.ms 1 0 (r8.take l1x_4.length).length]) (S2:=⟨[(1,.cells 1 ((r8.take l1x_4.length).map AV.i))],2⟩) ?_ (by intro i e; cases e <;> exact Nat.le_of_ble_eq_true rfl) (by kernel_rfl) (by kernel_rfl) (by kernel_rfl) (.k (.e rfl rfl (by simp; omega)) .z) (.k (x':=.cells 1 (r8.map AV.i)) (by kernel_rfl) (cutT 1 r8 l1x_4.length cl_i) .z)
  obtain ⟨r9,hr9,h⟩:=bindE h
  refine run1z (c46 33) [{},{ c:=some (.ms 1 0 r9.length,⟨[(1,.cells 1 (r9.map AV.i))],2⟩) }] [2] [.ms 1 0 r9.length] ⟨[(1,.cells 1 (r9.map AV.i))],2⟩ _ (by kernel_rfl) (cj1 (callF (f91_ok (r8.take l1x_4.length) _ hr9) [(0,1)] [(1,0)] [] [.ms 1 0 (r8.take l1x_4.length).length] ⟨[(1,.cells 1 ((r8.take l1x_4.length).map AV.i))],2⟩ (.ms 1 0 r9.length) ⟨[(1,.cells 1 (r9.map AV.i))],2⟩ (by kernel_rfl) (.k (.ms rfl rfl) .z) (.ms rfl rfl) (.k (x':=.cells 1 ((r8.take l1x_4.length).map AV.i)) (by kernel_rfl) (.cells (.r (cleanMap _ _ cl_i))) .z) (.d (x':=.cells 1 (r9.map AV.i)) rfl (by kernel_rfl) (.cells (.r (cleanMap _ _ cl_i))) .z))) ?_
  refine run_z 1 1 (r9.map AV.i) [2] [.ms 1 0 r9.length] (xs:=[.sl false (r9.map AV.i)]) (S2:=⟨[],2⟩) ?_ (by kernel_rfl) (by kernel_rfl) (.k (.m (mLe r9 AV.i) (mapAll r9 AV.i)) .z) .z rfl rfl
  refine run_t (by kernel_rfl) ?_
  replace h:=Option.some.inj h; subst h
  exact fin_r (by kernel_rfl) rfl
def f16 (a0:List (List GTone)):Option (((List Int)) × Int):=(f36 a0).bind fun r1=>bif (decide (r1 ≠ 0)) then (some (([]:List Int),r1)) else ((f46 a0).bind fun r3=>some (r3,0))
theorem f16_ok (a0:List (List GTone)) (r:(((List Int)) × Int)) (h:f16 a0 = some r):APure Tryz.prog 16 [.sl false (a0.map (SL E_GTone))] (.tup [.sl false (r.1.map AV.i),.i r.2]):=by
 refine apure (clK (cleanMap a0 _ (cl_SL cl_GTone)) clZ) (clK (cleanMap r.1 _ cl_i) (clK rfl clZ)) ?_
 refine run_f 12 [.tmp 2,.tmp 3] (c16 0) (zipE [0] [.sl false (a0.map (SL E_GTone))]) (by kernel_rfl) (by kernel_rfl) (by kernel_rfl) rfl ?_
 unfold f16 at h
 refine run1z (c16 2) [] [0] [.sl false (a0.map (SL E_GTone))] ⟨[],0⟩ _ (by kernel_rfl) cj0 ?_
 refine run_s (c16 3) (c16 12) (by kernel_rfl) ?_
 obtain ⟨r1,hr1,h⟩:=bindE h
 refine run1z (c16 5) [{},{ c:=some (.i r1,⟨[],0⟩) }] [0,4] [.sl false (a0.map (SL E_GTone)),.i r1] ⟨[],0⟩ _ (by kernel_rfl) (cj1 (f36_ok a0 _ hr1 ⟨[],0⟩)) ?_
 refine run1z (c16 7) [] [0,4,8] [.sl false (a0.map (SL E_GTone)),.i r1,.bool (decide (r1 ≠ 0))] ⟨[],0⟩ _ (by kernel_rfl) cj0 ?_
 rcases iteE h with ⟨hc2,h⟩ | ⟨hc2,h⟩
 ·refine run_cT 8 (c16 8) (c16 11) (decide (r1 ≠ 0)) hc2 (by kernel_rfl) (by kernel_rfl) ?_
  refine run1z (c16 10) [] [2,3] [.sl true [],.i r1] ⟨[],0⟩ _ (by kernel_rfl) cj0 ?_
  refine run_i 0 [] [2,3] [.sl true [],.i r1] (xs:=[.sl false (([]:List Int).map AV.i),.i r1]) (S2:=⟨[],0⟩) ?_ (by intro i e; cases e <;> exact Nat.le_of_ble_eq_true rfl) (by kernel_rfl) (by kernel_rfl) (by kernel_rfl) (.k (.s (cleanMap (([]:List Int)) _ cl_i)) (.k (.c rfl) .z)) .z
  refine run_t (by kernel_rfl) ?_
  refine thenR ?_
  replace h:=Option.some.inj h; subst h
  exact fin_r (by kernel_rfl) rfl
 ·refine run_cF 8 (c16 8) (c16 11) (decide (r1 ≠ 0)) hc2 (by kernel_rfl) (by kernel_rfl) ?_
  refine run_k (by kernel_rfl) ?_
  refine thenN ?_
  obtain ⟨r3,hr3,h⟩:=bindE h
  refine run1z (c16 14) [{},{ c:=some (.sl false (r3.map AV.i),⟨[],0⟩) }] [2,3] [.sl false (r3.map AV.i),.i 0] ⟨[],0⟩ _ (by kernel_rfl) (cj1 (f46_ok a0 _ hr3 ⟨[],0⟩)) ?_
  refine run_t (by kernel_rfl) ?_
  replace h:=Option.some.inj h; subst h
  exact fin_r (by kernel_rfl) rfl
def f92 (a0:List Int) (a1:Int):Option (List Int):=(loopN (σ:=Int) (τ:=Int) (fun (l1_5:Int)=>((bif (decide (0 < l1_5)) then ((ix a0 (wr (l1_5 - 1))).bind fun y2=>some (decide (a1 ≤ y2))) else (some false)):Option Bool).bind fun (j2_18:Bool)=>bif j2_18 then (some (.inl (wr (l1_5 - 1)))) else (some (.inr l1_5))) FUEL (a0.length:Int)).bind fun (l1x_5:Int)=>((bif (decide (l1x_5 < (a0.length:Int))) then ((ix a0 l1x_5).bind fun y5=>some (decide (y5 = a1))) else (some false)):Option Bool).bind fun (j3_32:Bool)=>bif j3_32 then (some a0) else (need (a0.length + 1 ≤ maxElems) <| need (0 ≤ (wr (l1x_5 + 1))) <| need ((wr (l1x_5 + 1)).toNat ≤ (a0 ++ [0]).length) <| need (0 ≤ l1x_5) <| need (l1x_5.toNat ≤ (a0 ++ [0]).length) <| need ((wr (l1x_5 + 1)).toNat + ((a0 ++ [0]).length - (wr (l1x_5 + 1)).toNat) ≤ (a0 ++ [0]).length) <| need (l1x_5.toNat + ((a0 ++ [0]).length - l1x_5.toNat) ≤ (a0 ++ [0]).length) <| (ix (((a0 ++ [0]).take (wr (l1x_5 + 1)).toNat ++ ((((a0 ++ [0]).drop l1x_5.toNat).take ((a0 ++ [0]).length - l1x_5.toNat)).take (min (((a0 ++ [0]).drop l1x_5.toNat).take ((a0 ++ [0]).length - l1x_5.toNat)).length ((a0 ++ [0]).length - (wr (l1x_5 + 1)).toNat)) ++ (a0 ++ [0]).drop ((wr (l1x_5 + 1)).toNat + (min (((a0 ++ [0]).drop l1x_5.toNat).take ((a0 ++ [0]).length - l1x_5.toNat)).length ((a0 ++ [0]).length - (wr (l1x_5 + 1)).toNat))))).take (a0 ++ [0]).length) l1x_5).bind fun y14=>some ((((a0 ++ [0]).take (wr (l1x_5 + 1)).toNat ++ ((((a0 ++ [0]).drop l1x_5.toNat).take ((a0 ++ [0]).length - l1x_5.toNat)).take (min (((a0 ++ [0]).drop l1x_5.toNat).take ((a0 ++ [0]).length - l1x_5.toNat)).length ((a0 ++ [0]).length - (wr (l1x_5 + 1)).toNat)) ++ (a0 ++ [0]).drop ((wr (l1x_5 + 1)).toNat + (min (((a0 ++ [0]).drop l1x_5.toNat).take ((a0 ++ [0]).length - l1x_5.toNat)).length ((a0 ++ [0]).length - (wr (l1x_5 + 1)).toNat))))).take (a0 ++ [0]).length).set l1x_5.toNat a1))
theorem f92_ok (a0:List Int) (a1:Int) (r:(List Int)) (h:f92 a0 a1 = some r):ACalls Tryz.prog 92 [.ms 0 0 a0.length,.i a1] ⟨[(0,.cells 1 (a0.map AV.i))],1⟩ (fun y t=>y = .ms 2 0 r.length ∧ t = ⟨[(2,.cells 1 (r.map AV.i))],3⟩):=by
 refine run_f 50 [.tmp 4] (c92 0) (zipE [0,1] [.ms 0 0 a0.length,.i a1]) (by kernel_rfl) (by kernel_rfl) (by kernel_rfl) rfl ?_
 unfold f92 at h
 refine run1z (c92 2) [] [0,1] [.ms 0 0 a0.length,.i a1] ⟨[(0,.cells 1 (a0.map AV.i))],1⟩ _ (by kernel_rfl) cj0 ?_
 refine run1z (c92 4) [] [0,1,5] [.ms 0 0 a0.length,.i a1,.i (a0.length:Int)] ⟨[(0,.cells 1 (a0.map AV.i))],1⟩ _ (by kernel_rfl) cj0 ?_
 obtain ⟨l1x_5,hll1x,h⟩:=bindE h
 refine run_jq (c92 5) (c92 15) (fun (l1x_5:Int)=>(zipE [0,1,5] [.ms 0 0 a0.length,.i a1,.i l1x_5])) (fun (l1x_5:Int)=>⟨[(0,.cells 1 (a0.map AV.i))],1⟩) (fun j=>l1x_5 = j) (by kernel_rfl) (fun kl1=>?_) ?_
 ·refine run_b 0 (c92 6) (by kernel_rfl) ?_
  refine run_l (c92 7) _ hll1x (fun (l1_5:Int)=>(zipE [0,1,5] [.ms 0 0 a0.length,.i a1,.i l1_5])) (fun (l1_5:Int)=>⟨[(0,.cells 1 (a0.map AV.i))],1⟩) [] (by intro i e; cases e <;> exact Nat.le_of_ble_eq_true rfl) (by kernel_rfl) (mkInto (ks:=[0,1,5]) (ys:=[.ms 0 0 a0.length,.i a1,.i (a0.length:Int)]) (by kernel_rfl) (by kernel_rfl) (.k (.ms rfl rfl) (.k (.c rfl) (.k (.c rfl) .z))) (.k (x':=.cells 1 (a0.map AV.i)) (by kernel_rfl) (.cells (.r (cleanMap _ _ cl_i))) .z)) ?_
  rintro l1_5 out hl1 rl1
  refine run_s (c92 8) (c92 13) (by kernel_rfl) ?_
  obtain ⟨j2_18,hj2,hl1⟩:=bindE hl1
  refine run_gq (c92 10) (fun (j2_18:Bool)=>(zipE [0,1,5,18] [.ms 0 0 a0.length,.i a1,.i l1_5,.bool j2_18])) (fun (j2_18:Bool)=>⟨[(0,.cells 1 (a0.map AV.i))],1⟩) (fun j=>j2_18 = j) (fun kj2=>?_) ?_
  ·rcases iteE hj2 with ⟨hc1,hj2⟩ | ⟨hc1,hj2⟩
   ·obtain ⟨y2,hy2,hj2⟩:=bindE hj2
    replace hj2:=Option.some.inj hj2; subst hj2
    exact run1z (c92 10) [{},{},{},{},{},{},{ k:=1,n:=(wr (l1_5 - 1)).toNat },{ k:=1,x:=AV.i y2 },{},{},{ k:=1,b:=true }] [0,1,5,18] [.ms 0 0 a0.length,.i a1,.i l1_5,.bool (decide (a1 ≤ y2))] ⟨[(0,.cells 1 (a0.map AV.i))],1⟩ _ (by kernel_rfl) (cjC (hc1) (cjC (hc1) (cjC (hc1) (cjC (hc1) (cjC ((ixE hy2).1) (cjC (ixLt hy2) (cjC (Nat.zero_add (wr (l1_5 - 1)).toNat) (cjC (hc1) (cjC (mapGet AV.i (ixE hy2).2) (cjC (hc1) (cjC (hc1) (cj1 (hc1))))))))))))) (kj2 (decide (a1 ≤ y2)) rfl)
   ·replace hj2:=Option.some.inj hj2; subst hj2
    exact run1z (c92 10) [{},{},{},{ g:=false },{ g:=false },{ g:=false },{ g:=false },{ g:=false },{ g:=false },{ g:=false },{ k:=1,b:=false }] [0,1,5,18] [.ms 0 0 a0.length,.i a1,.i l1_5,.bool false] ⟨[(0,.cells 1 (a0.map AV.i))],1⟩ _ (by kernel_rfl) (cjC (hc1) (cjC (hc1) (cjC (hc1) (cjC (hc1) (cjC (hc1) (cjC (hc1) (cjC (hc1) (cj1 (hc1))))))))) (kj2 false rfl)
  ·rintro _ rfl
   rcases iteE hl1 with ⟨hc3,hl1⟩ | ⟨hc3,hl1⟩
   ·refine run_cT 18 (c92 11) (c92 12) j2_18 hc3 (by kernel_rfl) (by kernel_rfl) ?_
    refine run_k (by kernel_rfl) ?_
    refine thenN ?_
    refine run_b 1 (c92 14) (by kernel_rfl) ?_
    refine run0z [] [0,1,5] [.ms 0 0 a0.length,.i a1,.i (wr (l1_5 - 1))] ⟨[(0,.cells 1 (a0.map AV.i))],1⟩ _ (by kernel_rfl) cj0 ?_
    replace hl1:=Option.some.inj hl1; subst hl1
    refine inbN ?_
    exact ⟨_,rfl,pi [],mkInto (ks:=[0,1,5]) (ys:=[.ms 0 0 a0.length,.i a1,.i (wr (l1_5 - 1))]) (by kernel_rfl) (by kernel_rfl) (.k (.ms rfl rfl) (.k (.c rfl) (.k (.c rfl) .z))) (.k (x':=.cells 1 (a0.map AV.i)) (by kernel_rfl) (.cells (.r (cleanMap _ _ cl_i))) .z)⟩
   ·refine run_cF 18 (c92 11) (c92 12) j2_18 hc3 (by kernel_rfl) (by kernel_rfl) ?_
    replace hl1:=Option.some.inj hl1; subst hl1
    have hr:=rl1 _ rfl
    subst hr
    refine awp_p [0,1,5] [0] (zipE [0,1,5] [.ms 0 0 a0.length,.i a1,.i l1_5]) ⟨[(0,.cells 1 (a0.map AV.i))],1⟩ (by kernel_rfl) (?_)
    refine run_e 0 (by kernel_rfl) ?_
    refine thenE ?_
    refine ⟨⟨_,rfl⟩,?_⟩
    refine inbE ?_
    refine thenN ?_
    exact kl1 l1_5 rfl
 ·rintro _ rfl
  refine run_s (c92 16) (c92 23) (by kernel_rfl) ?_
  obtain ⟨j3_32,hj3,h⟩:=bindE h
  refine run_gq (c92 18) (fun (j3_32:Bool)=>(zipE [0,1,5,32] [.ms 0 0 a0.length,.i a1,.i l1x_5,.bool j3_32])) (fun (j3_32:Bool)=>⟨[(0,.cells 1 (a0.map AV.i))],1⟩) (fun j=>j3_32 = j) (fun kj3=>?_) ?_
  ·rcases iteE hj3 with ⟨hc4,hj3⟩ | ⟨hc4,hj3⟩
   ·obtain ⟨y5,hy5,hj3⟩:=bindE hj3
    replace hj3:=Option.some.inj hj3; subst hj3
    exact run1z (c92 18) [{},{},{},{},{},{},{},{ k:=1,n:=l1x_5.toNat },{ k:=1,x:=AV.i y5 },{},{},{ k:=1,b:=true }] [0,1,5,32] [.ms 0 0 a0.length,.i a1,.i l1x_5,.bool (decide (y5 = a1))] ⟨[(0,.cells 1 (a0.map AV.i))],1⟩ _ (by kernel_rfl) (cjC (hc4) (cjC (hc4) (cjC (hc4) (cjC ((ixE hy5).1) (cjC (ixLt hy5) (cjC (Nat.zero_add l1x_5.toNat) (cjC (hc4) (cjC (mapGet AV.i (ixE hy5).2) (cjC (hc4) (cjC (hc4) (cj1 (hc4)))))))))))) (kj3 (decide (y5 = a1)) rfl)
   ·replace hj3:=Option.some.inj hj3; subst hj3
    exact run1z (c92 18) [{},{},{},{},{},{ g:=false },{ g:=false },{ g:=false },{ g:=false },{ g:=false },{ g:=false },{ k:=1,b:=false }] [0,1,5,32] [.ms 0 0 a0.length,.i a1,.i l1x_5,.bool false] ⟨[(0,.cells 1 (a0.map AV.i))],1⟩ _ (by kernel_rfl) (cjC (hc4) (cjC (hc4) (cjC (hc4) (cjC (hc4) (cjC (hc4) (cjC (hc4) (cj1 (hc4)))))))) (kj3 false rfl)
  ·rintro _ rfl
   rcases iteE h with ⟨hc6,h⟩ | ⟨hc6,h⟩
   ·refine run_cT 32 (c92 19) (c92 22) j3_32 hc6 (by kernel_rfl) (by kernel_rfl) ?_
    refine run1z (c92 21) [] [4] [.ms 0 0 a0.length] ⟨[(0,.cells 1 (a0.map AV.i))],1⟩ _ (by kernel_rfl) cj0 ?_
    refine run_i 1 [(2,0)] [4] [.ms 0 0 a0.length] (xs:=[.ms 2 0 a0.length]) (S2:=⟨[(2,.cells 1 (a0.map AV.i))],3⟩) ?_ (by intro i e; cases e <;> exact Nat.le_of_ble_eq_true rfl) (by kernel_rfl) (by kernel_rfl) (by kernel_rfl) (.k (.ms rfl rfl) .z) (.k (x':=.cells 1 (a0.map AV.i)) (by kernel_rfl) (.cells (.r (cleanMap _ _ cl_i))) .z)
    refine run_t (by kernel_rfl) ?_
    refine thenR ?_
    replace h:=Option.some.inj h; subst h
    exact fin_p [2] ⟨[(2,.cells 1 (a0.map AV.i))],3⟩ (by kernel_rfl) (by kernel_rfl) rfl ⟨rfl,rfl⟩
   ·refine run_cF 32 (c92 19) (c92 22) j3_32 hc6 (by kernel_rfl) (by kernel_rfl) ?_
    refine run_k (by kernel_rfl) ?_
    refine thenN ?_
    obtain ⟨hn7,h⟩:=needE h
    refine run1z (c92 25) [{},{},{ k:=1,n:=(a0 ++ [0]).length,l:=(a0 ++ [0]).map AV.i }] [0,1,5] [.ms 1 0 (a0 ++ [0]).length,.i a1,.i l1x_5] ⟨[(1,.cells 1 ((a0 ++ [0]).map AV.i))],2⟩ _ (by kernel_rfl) (cjC (@List.cons_ne_nil AV (.i 0) []) (cjC (mLe a0 AV.i) (cjC (hn7) (cjC (lenA a0 ([0]:List Int)) (cjC (appA a0 ([0]:List Int) AV.i) (cj1 (fitsOne (P:=Tryz.prog) (t:=3) (x:=.i 0) (r:=[]) (by kernel_rfl)))))))) ?_
    obtain ⟨hn8,h⟩:=needE h
    obtain ⟨hn9,h⟩:=needE h
    obtain ⟨hn10,h⟩:=needE h
    obtain ⟨hn11,h⟩:=needE h
    obtain ⟨hn12,h⟩:=needE h
    obtain ⟨hn13,h⟩:=needE h
    refine yun1z (c92 27) [[],[],[1],[0,1,2],[],[],[4,5],[0,1,2,3,4,5,6]] [.light 0 false,.light 1 false,.light 2 false,.light 3 false,.light 4 false,.light 5 false,.light 6 false,.heavy 7 []] [{},{},{},{ k:=1,n:=(wr (l1x_5 + 1)).toNat,m:=(a0 ++ [0]).length,q:=(wr (l1x_5 + 1)).toNat,p:=((a0 ++ [0]).length - (wr (l1x_5 + 1)).toNat) },{},{},{ k:=1,n:=l1x_5.toNat,m:=(a0 ++ [0]).length,q:=l1x_5.toNat,p:=((a0 ++ [0]).length - l1x_5.toNat) },{ k:=1,n:=(min (((a0 ++ [0]).drop l1x_5.toNat).take ((a0 ++ [0]).length - l1x_5.toNat)).length ((a0 ++ [0]).length - (wr (l1x_5 + 1)).toNat)),l:=((a0 ++ [0]).take (wr (l1x_5 + 1)).toNat ++ ((((a0 ++ [0]).drop l1x_5.toNat).take ((a0 ++ [0]).length - l1x_5.toNat)).take (min (((a0 ++ [0]).drop l1x_5.toNat).take ((a0 ++ [0]).length - l1x_5.toNat)).length ((a0 ++ [0]).length - (wr (l1x_5 + 1)).toNat)) ++ (a0 ++ [0]).drop ((wr (l1x_5 + 1)).toNat + (min (((a0 ++ [0]).drop l1x_5.toNat).take ((a0 ++ [0]).length - l1x_5.toNat)).length ((a0 ++ [0]).length - (wr (l1x_5 + 1)).toNat))))).map AV.i }] [0,1,5] [.ms 1 0 (a0 ++ [0]).length,.i a1,.i l1x_5] ⟨[(1,.cells 1 (((a0 ++ [0]).take (wr (l1x_5 + 1)).toNat ++ ((((a0 ++ [0]).drop l1x_5.toNat).take ((a0 ++ [0]).length - l1x_5.toNat)).take (min (((a0 ++ [0]).drop l1x_5.toNat).take ((a0 ++ [0]).length - l1x_5.toNat)).length ((a0 ++ [0]).length - (wr (l1x_5 + 1)).toNat)) ++ (a0 ++ [0]).drop ((wr (l1x_5 + 1)).toNat + (min (((a0 ++ [0]).drop l1x_5.toNat).take ((a0 ++ [0]).length - l1x_5.toNat)).length ((a0 ++ [0]).length - (wr (l1x_5 + 1)).toNat))))).map AV.i))],2⟩ _ (by kernel_rfl) (cjC (hn9) (cjC (Nat.le_refl (a0 ++ [0]).length) (cjC (Nat.zero_add (wr (l1x_5 + 1)).toNat) (cjC (Eq.refl ((a0 ++ [0]).length - (wr (l1x_5 + 1)).toNat)) (cjC (hn8) (cjC (Eq.refl ((wr (l1x_5 + 1)).toNat)) (cjC (Eq.refl ((a0 ++ [0]).length:Nat)) (cjC (hn11) (cjC (Nat.le_refl (a0 ++ [0]).length) (cjC (Nat.zero_add l1x_5.toNat) (cjC (Eq.refl ((a0 ++ [0]).length - l1x_5.toNat)) (cjC (hn10) (cjC (Eq.refl (l1x_5.toNat)) (cjC (Eq.refl ((a0 ++ [0]).length:Nat)) (cjC (leMap AV.i hn12) (cjC (copyMinM (a0 ++ [0]) l1x_5.toNat ((a0 ++ [0]).length - l1x_5.toNat) ((a0 ++ [0]).length - (wr (l1x_5 + 1)).toNat) AV.i) (cjC (copyEqM (a0 ++ [0]) (a0 ++ [0]) (wr (l1x_5 + 1)).toNat l1x_5.toNat ((a0 ++ [0]).length - l1x_5.toNat) (min (((a0 ++ [0]).drop l1x_5.toNat).take ((a0 ++ [0]).length - l1x_5.toNat)).length ((a0 ++ [0]).length - (wr (l1x_5 + 1)).toNat)) ((wr (l1x_5 + 1)).toNat + (min (((a0 ++ [0]).drop l1x_5.toNat).take ((a0 ++ [0]).length - l1x_5.toNat)).length ((a0 ++ [0]).length - (wr (l1x_5 + 1)).toNat))) AV.i) (cj1 (leMap AV.i hn13))))))))))))))))))) ?_
    refine run_i 2 [] [0,1,5] [.ms 1 0 (a0 ++ [0]).length,.i a1,.i l1x_5] (xs:=[.ms 1 0 (((a0 ++ [0]).take (wr (l1x_5 + 1)).toNat ++ ((((a0 ++ [0]).drop l1x_5.toNat).take ((a0 ++ [0]).length - l1x_5.toNat)).take (min (((a0 ++ [0]).drop l1x_5.toNat).take ((a0 ++ [0]).length - l1x_5.toNat)).length ((a0 ++ [0]).length - (wr (l1x_5 + 1)).toNat)) ++ (a0 ++ [0]).drop ((wr (l1x_5 + 1)).toNat + (min (((a0 ++ [0]).drop l1x_5.toNat).take ((a0 ++ [0]).length - l1x_5.toNat)).length ((a0 ++ [0]).length - (wr (l1x_5 + 1)).toNat))))).take (a0 ++ [0]).length).length,.i a1,.i l1x_5]) (S2:=⟨[(1,.cells 1 ((((a0 ++ [0]).take (wr (l1x_5 + 1)).toNat ++ ((((a0 ++ [0]).drop l1x_5.toNat).take ((a0 ++ [0]).length - l1x_5.toNat)).take (min (((a0 ++ [0]).drop l1x_5.toNat).take ((a0 ++ [0]).length - l1x_5.toNat)).length ((a0 ++ [0]).length - (wr (l1x_5 + 1)).toNat)) ++ (a0 ++ [0]).drop ((wr (l1x_5 + 1)).toNat + (min (((a0 ++ [0]).drop l1x_5.toNat).take ((a0 ++ [0]).length - l1x_5.toNat)).length ((a0 ++ [0]).length - (wr (l1x_5 + 1)).toNat))))).take (a0 ++ [0]).length).map AV.i))],2⟩) ?_ (by intro i e; cases e <;> exact Nat.le_of_ble_eq_true rfl) (by kernel_rfl) (by kernel_rfl) (by kernel_rfl) (.k (.e rfl rfl (by simp; omega)) (.k (.c rfl) (.k (.c rfl) .z))) (.k (x':=.cells 1 (((a0 ++ [0]).take (wr (l1x_5 + 1)).toNat ++ ((((a0 ++ [0]).drop l1x_5.toNat).take ((a0 ++ [0]).length - l1x_5.toNat)).take (min (((a0 ++ [0]).drop l1x_5.toNat).take ((a0 ++ [0]).length - l1x_5.toNat)).length ((a0 ++ [0]).length - (wr (l1x_5 + 1)).toNat)) ++ (a0 ++ [0]).drop ((wr (l1x_5 + 1)).toNat + (min (((a0 ++ [0]).drop l1x_5.toNat).take ((a0 ++ [0]).length - l1x_5.toNat)).length ((a0 ++ [0]).length - (wr (l1x_5 + 1)).toNat))))).map AV.i)) (by kernel_rfl) (cutT 1 ((a0 ++ [0]).take (wr (l1x_5 + 1)).toNat ++ ((((a0 ++ [0]).drop l1x_5.toNat).take ((a0 ++ [0]).length - l1x_5.toNat)).take (min (((a0 ++ [0]).drop l1x_5.toNat).take ((a0 ++ [0]).length - l1x_5.toNat)).length ((a0 ++ [0]).length - (wr (l1x_5 + 1)).toNat)) ++ (a0 ++ [0]).drop ((wr (l1x_5 + 1)).toNat + (min (((a0 ++ [0]).drop l1x_5.toNat).take ((a0 ++ [0]).length - l1x_5.toNat)).length ((a0 ++ [0]).length - (wr (l1x_5 + 1)).toNat))))) (a0 ++ [0]).length cl_i) .z)
    obtain ⟨y14,hy14,h⟩:=bindE h
    refine run1z (c92 29) [{},{},{},{ k:=1,n:=l1x_5.toNat },{ k:=1,x:=AV.i y14,l:=((((a0 ++ [0]).take (wr (l1x_5 + 1)).toNat ++ ((((a0 ++ [0]).drop l1x_5.toNat).take ((a0 ++ [0]).length - l1x_5.toNat)).take (min (((a0 ++ [0]).drop l1x_5.toNat).take ((a0 ++ [0]).length - l1x_5.toNat)).length ((a0 ++ [0]).length - (wr (l1x_5 + 1)).toNat)) ++ (a0 ++ [0]).drop ((wr (l1x_5 + 1)).toNat + (min (((a0 ++ [0]).drop l1x_5.toNat).take ((a0 ++ [0]).length - l1x_5.toNat)).length ((a0 ++ [0]).length - (wr (l1x_5 + 1)).toNat))))).take (a0 ++ [0]).length).set l1x_5.toNat a1).map AV.i }] [0] [.ms 1 0 (((a0 ++ [0]).take (wr (l1x_5 + 1)).toNat ++ ((((a0 ++ [0]).drop l1x_5.toNat).take ((a0 ++ [0]).length - l1x_5.toNat)).take (min (((a0 ++ [0]).drop l1x_5.toNat).take ((a0 ++ [0]).length - l1x_5.toNat)).length ((a0 ++ [0]).length - (wr (l1x_5 + 1)).toNat)) ++ (a0 ++ [0]).drop ((wr (l1x_5 + 1)).toNat + (min (((a0 ++ [0]).drop l1x_5.toNat).take ((a0 ++ [0]).length - l1x_5.toNat)).length ((a0 ++ [0]).length - (wr (l1x_5 + 1)).toNat))))).take (a0 ++ [0]).length).length] ⟨[(1,.cells 1 (((((a0 ++ [0]).take (wr (l1x_5 + 1)).toNat ++ ((((a0 ++ [0]).drop l1x_5.toNat).take ((a0 ++ [0]).length - l1x_5.toNat)).take (min (((a0 ++ [0]).drop l1x_5.toNat).take ((a0 ++ [0]).length - l1x_5.toNat)).length ((a0 ++ [0]).length - (wr (l1x_5 + 1)).toNat)) ++ (a0 ++ [0]).drop ((wr (l1x_5 + 1)).toNat + (min (((a0 ++ [0]).drop l1x_5.toNat).take ((a0 ++ [0]).length - l1x_5.toNat)).length ((a0 ++ [0]).length - (wr (l1x_5 + 1)).toNat))))).take (a0 ++ [0]).length).set l1x_5.toNat a1).map AV.i))],2⟩ _ (by kernel_rfl) (cjC ((ixE hy14).1) (cjC (ixLt hy14) (cjC (Nat.zero_add l1x_5.toNat) (cjC (mapGet AV.i (ixE hy14).2) (cjC ((by decide:(1:Nat) ≤ 1)) (cj1 (mapSet (((a0 ++ [0]).take (wr (l1x_5 + 1)).toNat ++ ((((a0 ++ [0]).drop l1x_5.toNat).take ((a0 ++ [0]).length - l1x_5.toNat)).take (min (((a0 ++ [0]).drop l1x_5.toNat).take ((a0 ++ [0]).length - l1x_5.toNat)).length ((a0 ++ [0]).length - (wr (l1x_5 + 1)).toNat)) ++ (a0 ++ [0]).drop ((wr (l1x_5 + 1)).toNat + (min (((a0 ++ [0]).drop l1x_5.toNat).take ((a0 ++ [0]).length - l1x_5.toNat)).length ((a0 ++ [0]).length - (wr (l1x_5 + 1)).toNat))))).take (a0 ++ [0]).length) AV.i l1x_5.toNat a1))))))) ?_
    refine run_i 2 [] [0] [.ms 1 0 (((a0 ++ [0]).take (wr (l1x_5 + 1)).toNat ++ ((((a0 ++ [0]).drop l1x_5.toNat).take ((a0 ++ [0]).length - l1x_5.toNat)).take (min (((a0 ++ [0]).drop l1x_5.toNat).take ((a0 ++ [0]).length - l1x_5.toNat)).length ((a0 ++ [0]).length - (wr (l1x_5 + 1)).toNat)) ++ (a0 ++ [0]).drop ((wr (l1x_5 + 1)).toNat + (min (((a0 ++ [0]).drop l1x_5.toNat).take ((a0 ++ [0]).length - l1x_5.toNat)).length ((a0 ++ [0]).length - (wr (l1x_5 + 1)).toNat))))).take (a0 ++ [0]).length).length] (xs:=[.ms 1 0 ((((a0 ++ [0]).take (wr (l1x_5 + 1)).toNat ++ ((((a0 ++ [0]).drop l1x_5.toNat).take ((a0 ++ [0]).length - l1x_5.toNat)).take (min (((a0 ++ [0]).drop l1x_5.toNat).take ((a0 ++ [0]).length - l1x_5.toNat)).length ((a0 ++ [0]).length - (wr (l1x_5 + 1)).toNat)) ++ (a0 ++ [0]).drop ((wr (l1x_5 + 1)).toNat + (min (((a0 ++ [0]).drop l1x_5.toNat).take ((a0 ++ [0]).length - l1x_5.toNat)).length ((a0 ++ [0]).length - (wr (l1x_5 + 1)).toNat))))).take (a0 ++ [0]).length).set l1x_5.toNat a1).length]) (S2:=⟨[(1,.cells 1 (((((a0 ++ [0]).take (wr (l1x_5 + 1)).toNat ++ ((((a0 ++ [0]).drop l1x_5.toNat).take ((a0 ++ [0]).length - l1x_5.toNat)).take (min (((a0 ++ [0]).drop l1x_5.toNat).take ((a0 ++ [0]).length - l1x_5.toNat)).length ((a0 ++ [0]).length - (wr (l1x_5 + 1)).toNat)) ++ (a0 ++ [0]).drop ((wr (l1x_5 + 1)).toNat + (min (((a0 ++ [0]).drop l1x_5.toNat).take ((a0 ++ [0]).length - l1x_5.toNat)).length ((a0 ++ [0]).length - (wr (l1x_5 + 1)).toNat))))).take (a0 ++ [0]).length).set l1x_5.toNat a1).map AV.i))],2⟩) ?_ (by intro i e; cases e <;> exact Nat.le_of_ble_eq_true rfl) (by kernel_rfl) (by kernel_rfl) (by kernel_rfl) (.k (.e rfl rfl (by simp)) .z) (.k (x':=.cells 1 (((((a0 ++ [0]).take (wr (l1x_5 + 1)).toNat ++ ((((a0 ++ [0]).drop l1x_5.toNat).take ((a0 ++ [0]).length - l1x_5.toNat)).take (min (((a0 ++ [0]).drop l1x_5.toNat).take ((a0 ++ [0]).length - l1x_5.toNat)).length ((a0 ++ [0]).length - (wr (l1x_5 + 1)).toNat)) ++ (a0 ++ [0]).drop ((wr (l1x_5 + 1)).toNat + (min (((a0 ++ [0]).drop l1x_5.toNat).take ((a0 ++ [0]).length - l1x_5.toNat)).length ((a0 ++ [0]).length - (wr (l1x_5 + 1)).toNat))))).take (a0 ++ [0]).length).set l1x_5.toNat a1).map AV.i)) (by kernel_rfl) (.cells (.r (cleanMap _ _ cl_i))) .z)
    refine run1z (c92 31) [] [4] [.ms 1 0 ((((a0 ++ [0]).take (wr (l1x_5 + 1)).toNat ++ ((((a0 ++ [0]).drop l1x_5.toNat).take ((a0 ++ [0]).length - l1x_5.toNat)).take (min (((a0 ++ [0]).drop l1x_5.toNat).take ((a0 ++ [0]).length - l1x_5.toNat)).length ((a0 ++ [0]).length - (wr (l1x_5 + 1)).toNat)) ++ (a0 ++ [0]).drop ((wr (l1x_5 + 1)).toNat + (min (((a0 ++ [0]).drop l1x_5.toNat).take ((a0 ++ [0]).length - l1x_5.toNat)).length ((a0 ++ [0]).length - (wr (l1x_5 + 1)).toNat))))).take (a0 ++ [0]).length).set l1x_5.toNat a1).length] ⟨[(1,.cells 1 (((((a0 ++ [0]).take (wr (l1x_5 + 1)).toNat ++ ((((a0 ++ [0]).drop l1x_5.toNat).take ((a0 ++ [0]).length - l1x_5.toNat)).take (min (((a0 ++ [0]).drop l1x_5.toNat).take ((a0 ++ [0]).length - l1x_5.toNat)).length ((a0 ++ [0]).length - (wr (l1x_5 + 1)).toNat)) ++ (a0 ++ [0]).drop ((wr (l1x_5 + 1)).toNat + (min (((a0 ++ [0]).drop l1x_5.toNat).take ((a0 ++ [0]).length - l1x_5.toNat)).length ((a0 ++ [0]).length - (wr (l1x_5 + 1)).toNat))))).take (a0 ++ [0]).length).set l1x_5.toNat a1).map AV.i))],2⟩ _ (by kernel_rfl) cj0 ?_
    refine run_i 2 [(2,1)] [4] [.ms 1 0 ((((a0 ++ [0]).take (wr (l1x_5 + 1)).toNat ++ ((((a0 ++ [0]).drop l1x_5.toNat).take ((a0 ++ [0]).length - l1x_5.toNat)).take (min (((a0 ++ [0]).drop l1x_5.toNat).take ((a0 ++ [0]).length - l1x_5.toNat)).length ((a0 ++ [0]).length - (wr (l1x_5 + 1)).toNat)) ++ (a0 ++ [0]).drop ((wr (l1x_5 + 1)).toNat + (min (((a0 ++ [0]).drop l1x_5.toNat).take ((a0 ++ [0]).length - l1x_5.toNat)).length ((a0 ++ [0]).length - (wr (l1x_5 + 1)).toNat))))).take (a0 ++ [0]).length).set l1x_5.toNat a1).length] (xs:=[.ms 2 0 ((((a0 ++ [0]).take (wr (l1x_5 + 1)).toNat ++ ((((a0 ++ [0]).drop l1x_5.toNat).take ((a0 ++ [0]).length - l1x_5.toNat)).take (min (((a0 ++ [0]).drop l1x_5.toNat).take ((a0 ++ [0]).length - l1x_5.toNat)).length ((a0 ++ [0]).length - (wr (l1x_5 + 1)).toNat)) ++ (a0 ++ [0]).drop ((wr (l1x_5 + 1)).toNat + (min (((a0 ++ [0]).drop l1x_5.toNat).take ((a0 ++ [0]).length - l1x_5.toNat)).length ((a0 ++ [0]).length - (wr (l1x_5 + 1)).toNat))))).take (a0 ++ [0]).length).set l1x_5.toNat a1).length]) (S2:=⟨[(2,.cells 1 (((((a0 ++ [0]).take (wr (l1x_5 + 1)).toNat ++ ((((a0 ++ [0]).drop l1x_5.toNat).take ((a0 ++ [0]).length - l1x_5.toNat)).take (min (((a0 ++ [0]).drop l1x_5.toNat).take ((a0 ++ [0]).length - l1x_5.toNat)).length ((a0 ++ [0]).length - (wr (l1x_5 + 1)).toNat)) ++ (a0 ++ [0]).drop ((wr (l1x_5 + 1)).toNat + (min (((a0 ++ [0]).drop l1x_5.toNat).take ((a0 ++ [0]).length - l1x_5.toNat)).length ((a0 ++ [0]).length - (wr (l1x_5 + 1)).toNat))))).take (a0 ++ [0]).length).set l1x_5.toNat a1).map AV.i))],3⟩) ?_ (by intro i e; cases e <;> exact Nat.le_of_ble_eq_true rfl) (by kernel_rfl) (by kernel_rfl) (by kernel_rfl) (.k (.ms rfl rfl) .z) (.k (x':=.cells 1 (((((a0 ++ [0]).take (wr (l1x_5 + 1)).toNat ++ ((((a0 ++ [0]).drop l1x_5.toNat).take ((a0 ++ [0]).length - l1x_5.toNat)).take (min (((a0 ++ [0]).drop l1x_5.toNat).take ((a0 ++ [0]).length - l1x_5.toNat)).length ((a0 ++ [0]).length - (wr (l1x_5 + 1)).toNat)) ++ (a0 ++ [0]).drop ((wr (l1x_5 + 1)).toNat + (min (((a0 ++ [0]).drop l1x_5.toNat).take ((a0 ++ [0]).length - l1x_5.toNat)).length ((a0 ++ [0]).length - (wr (l1x_5 + 1)).toNat))))).take (a0 ++ [0]).length).set l1x_5.toNat a1).map AV.i)) (by kernel_rfl) (.cells (.r (cleanMap _ _ cl_i))) .z)
    refine run_t (by kernel_rfl) ?_
    replace h:=Option.some.inj h; subst h
    exact fin_p [2] ⟨[(2,.cells 1 (((((a0 ++ [0]).take (wr (l1x_5 + 1)).toNat ++ ((((a0 ++ [0]).drop l1x_5.toNat).take ((a0 ++ [0]).length - l1x_5.toNat)).take (min (((a0 ++ [0]).drop l1x_5.toNat).take ((a0 ++ [0]).length - l1x_5.toNat)).length ((a0 ++ [0]).length - (wr (l1x_5 + 1)).toNat)) ++ (a0 ++ [0]).drop ((wr (l1x_5 + 1)).toNat + (min (((a0 ++ [0]).drop l1x_5.toNat).take ((a0 ++ [0]).length - l1x_5.toNat)).length ((a0 ++ [0]).length - (wr (l1x_5 + 1)).toNat))))).take (a0 ++ [0]).length).set l1x_5.toNat a1).map AV.i))],3⟩ (by kernel_rfl) (by kernel_rfl) rfl ⟨rfl,rfl⟩
def f93 (a0:List (List GTone)) (a1:Int):Option Bool:=(loopN (σ:=Int) (τ:=(Unit ⊕ Bool)) (fun (l1_5:Int)=>bif (decide (l1_5 < (a0.length:Int))) then ((loopN (σ:=Int) (τ:=(Unit ⊕ (Int ⊕ (Unit ⊕ Bool)))) (fun (l2_6:Int)=>(ix a0 l1_5).bind fun y2=>bif (decide (l2_6 < (y2.length:Int))) then ((((ix y2 l2_6).bind fun y4=>bif (decide (y4.from_ ≤ a1)) then (some (decide (a1 < y4.to_))) else (some false)):Option Bool).bind fun (j3_43:Bool)=>bif j3_43 then (some (.inr (.inr (.inr (.inr false))))) else (some (.inl (wr (l2_6 + 1))))) else (some (.inr (.inl ())))) FUEL 0).bind (Sum.elim (fun (_:Unit)=>some (.inl (wr (l1_5 + 1)))) some)) else (some (.inr (.inl ())))) FUEL 0).bind (Sum.elim (fun (_:Unit)=>some true) some)
theorem f93_ok (a0:List (List GTone)) (a1:Int) (r:Bool) (h:f93 a0 a1 = some r):APure Tryz.prog 93 [.sl false (a0.map (SL E_GTone)),.i a1] (.bool r):=by
 refine apure (clK (cleanMap a0 _ (cl_SL cl_GTone)) (clK rfl clZ)) rfl ?_
 refine run_f 44 [.tmp 4] (c93 0) (zipE [0,1] [.sl false (a0.map (SL E_GTone)),.i a1]) (by kernel_rfl) (by kernel_rfl) (by kernel_rfl) rfl ?_
 unfold f93 at h
 refine run1z (c93 2) [] [0,1] [.sl false (a0.map (SL E_GTone)),.i a1] ⟨[],0⟩ _ (by kernel_rfl) cj0 ?_
 refine run_s (c93 3) (c93 36) (by kernel_rfl) ?_
 refine run1z (c93 5) [] [0,1,5] [.sl false (a0.map (SL E_GTone)),.i a1,.i 0] ⟨[],0⟩ _ (by kernel_rfl) cj0 ?_
 obtain ⟨ol1x,hll1x,h⟩:=bindE h
 refine run_tq (fun (_:Unit)=>(zipE [] [])) (fun (_:Unit)=>⟨[],0⟩) (fun j=>ol1x = .inl j) (fun kl1=>?_) ?_
 ·refine run_b 0 (c93 6) (by kernel_rfl) ?_
  refine run_l (c93 7) _ hll1x (fun (l1_5:Int)=>(zipE [0,1,5] [.sl false (a0.map (SL E_GTone)),.i a1,.i l1_5])) (fun (l1_5:Int)=>⟨[],0⟩) [] (by intro i e; cases e <;> exact Nat.le_of_ble_eq_true rfl) (by kernel_rfl) (mkInto (ks:=[0,1,5]) (ys:=[.sl false (a0.map (SL E_GTone)),.i a1,.i 0]) (by kernel_rfl) (by kernel_rfl) (.k (.c (cleanMap _ _ (cl_SL cl_GTone))) (.k (.c rfl) (.k (.c rfl) .z))) .z) ?_
  rintro l1_5 out hl1 rl1
  refine run_s (c93 8) (c93 13) (by kernel_rfl) ?_
  refine run1z (c93 10) [{},{},{ k:=1,n:=a0.length }] [0,1,5,10] [.sl false (a0.map (SL E_GTone)),.i a1,.i l1_5,.bool (decide (l1_5 < (a0.length:Int)))] ⟨[],0⟩ _ (by kernel_rfl) (cj1 (mapLen a0 (SL E_GTone))) ?_
  rcases iteE hl1 with ⟨hc1,hl1⟩ | ⟨hc1,hl1⟩
  ·refine run_cT 10 (c93 11) (c93 12) (decide (l1_5 < (a0.length:Int))) hc1 (by kernel_rfl) (by kernel_rfl) ?_
   refine run_k (by kernel_rfl) ?_
   refine thenN ?_
   refine run_s (c93 14) (c93 35) (by kernel_rfl) ?_
   refine run_b 1 (c93 15) (by kernel_rfl) ?_
   refine run1z (c93 17) [] [0,1,5,6] [.sl false (a0.map (SL E_GTone)),.i a1,.i l1_5,.i 0] ⟨[],0⟩ _ (by kernel_rfl) cj0 ?_
   obtain ⟨ol2x,hll2x,hl1⟩:=bindE hl1
   refine run_tq (fun (_:Unit)=>(zipE [0,1,5] [.sl false (a0.map (SL E_GTone)),.i a1,.i l1_5])) (fun (_:Unit)=>⟨[],0⟩) (fun j=>ol2x = .inl j) (fun kl2=>?_) ?_
   ·refine run_b 2 (c93 18) (by kernel_rfl) ?_
    refine run_l (c93 19) _ hll2x (fun (l2_6:Int)=>(zipE [0,1,5,6] [.sl false (a0.map (SL E_GTone)),.i a1,.i l1_5,.i l2_6])) (fun (l2_6:Int)=>⟨[],0⟩) [] (by intro i e; cases e <;> exact Nat.le_of_ble_eq_true rfl) (by kernel_rfl) (mkInto (ks:=[0,1,5,6]) (ys:=[.sl false (a0.map (SL E_GTone)),.i a1,.i l1_5,.i 0]) (by kernel_rfl) (by kernel_rfl) (.k (.c (cleanMap _ _ (cl_SL cl_GTone))) (.k (.c rfl) (.k (.c rfl) (.k (.c rfl) .z)))) .z) ?_
    rintro l2_6 out hl2 rl2
    refine run_s (c93 20) (c93 25) (by kernel_rfl) ?_
    obtain ⟨y2,hy2,hl2⟩:=bindE hl2
    refine run1z (c93 22) [{},{},{},{ k:=1,x:=(SL E_GTone) y2 },{},{ k:=1,n:=y2.length }] [0,1,5,6,19] [.sl false (a0.map (SL E_GTone)),.i a1,.i l1_5,.i l2_6,.bool (decide (l2_6 < (y2.length:Int)))] ⟨[],0⟩ _ (by kernel_rfl) (cjC ((ixE hy2).1) (cjC (mapGet (SL E_GTone) (ixE hy2).2) (cj1 (mapLen y2 E_GTone)))) ?_
    rcases iteE hl2 with ⟨hc3,hl2⟩ | ⟨hc3,hl2⟩
    ·refine run_cT 19 (c93 23) (c93 24) (decide (l2_6 < (y2.length:Int))) hc3 (by kernel_rfl) (by kernel_rfl) ?_
     refine run_k (by kernel_rfl) ?_
     refine thenN ?_
     refine run_s (c93 26) (c93 34) (by kernel_rfl) ?_
     refine run_b 3 (c93 27) (by kernel_rfl) ?_
     obtain ⟨j3_43,hj3,hl2⟩:=bindE hl2
     refine run_gq (c93 29) (fun (j3_43:Bool)=>(zipE [0,1,5,6,43] [.sl false (a0.map (SL E_GTone)),.i a1,.i l1_5,.i l2_6,.bool j3_43])) (fun (j3_43:Bool)=>⟨[],0⟩) (fun j=>j3_43 = j) (fun kj3=>?_) ?_
     ·obtain ⟨y4,hy4,hj3⟩:=bindE hj3
      rcases iteE hj3 with ⟨hc5,hj3⟩ | ⟨hc5,hj3⟩
      ·replace hj3:=Option.some.inj hj3; subst hj3
       exact run1z (c93 29) [{},{},{ k:=1,x:=(SL E_GTone) y2 },{},{},{ k:=1,x:=E_GTone y4 },{},{},{},{},{},{},{},{},{ k:=1,x:=(SL E_GTone) y2 },{},{},{ k:=1,x:=E_GTone y4 },{},{},{},{ k:=1,b:=true }] [0,1,5,6,43] [.sl false (a0.map (SL E_GTone)),.i a1,.i l1_5,.i l2_6,.bool (decide (a1 < y4.to_))] ⟨[],0⟩ _ (by kernel_rfl) (cjC ((ixE hy2).1) (cjC (mapGet (SL E_GTone) (ixE hy2).2) (cjC ((ixE hy4).1) (cjC (mapGet E_GTone (ixE hy4).2) (cjC (hc5) (cjC (hc5) (cjC (hc5) (cjC (hc5) (cjC ((ixE hy2).1) (cjC (mapGet (SL E_GTone) (ixE hy2).2) (cjC (hc5) (cjC (hc5) (cjC (hc5) (cjC ((ixE hy4).1) (cjC (mapGet E_GTone (ixE hy4).2) (cjC (hc5) (cjC (hc5) (cjC (hc5) (cj1 (hc5)))))))))))))))))))) (kj3 (decide (a1 < y4.to_)) rfl)
      ·replace hj3:=Option.some.inj hj3; subst hj3
       exact run1z (c93 29) [{},{},{ k:=1,x:=(SL E_GTone) y2 },{},{},{ k:=1,x:=E_GTone y4 },{},{},{},{},{},{ g:=false },{ g:=false },{ g:=false },{ g:=false },{ g:=false },{ g:=false },{ g:=false },{ g:=false },{ g:=false },{ g:=false },{ k:=1,b:=false }] [0,1,5,6,43] [.sl false (a0.map (SL E_GTone)),.i a1,.i l1_5,.i l2_6,.bool false] ⟨[],0⟩ _ (by kernel_rfl) (cjC ((ixE hy2).1) (cjC (mapGet (SL E_GTone) (ixE hy2).2) (cjC ((ixE hy4).1) (cjC (mapGet E_GTone (ixE hy4).2) (cjC (hc5) (cjC (hc5) (cjC (hc5) (cjC (hc5) (cjC (hc5) (cjC (hc5) (cjC (hc5) (cjC (hc5) (cjC (hc5) (cjC (hc5) (cj1 (hc5)))))))))))))))) (kj3 false rfl)
     ·rintro _ rfl
      rcases iteE hl2 with ⟨hc6,hl2⟩ | ⟨hc6,hl2⟩
      ·refine run_cT 43 (c93 30) (c93 33) j3_43 hc6 (by kernel_rfl) (by kernel_rfl) ?_
       refine run1z (c93 32) [] [4] [.bool false] ⟨[],0⟩ _ (by kernel_rfl) cj0 ?_
       replace hl2:=Option.some.inj hl2; subst hl2
       have hr:=rl2 _ rfl
       subst hr
       replace hl1:=elimR hl1
       replace hl1:=Option.some.inj hl1; subst hl1
       have hr:=rl1 _ rfl
       subst hr
       replace h:=elimR h
       refine run_t (by kernel_rfl) ?_
       refine inbR ?_
       refine thenR ?_
       refine ⟨⟨_,rfl⟩,?_⟩
       refine inbR ?_
       refine inbR ?_
       refine thenR ?_
       refine ⟨⟨_,rfl⟩,?_⟩
       refine inbR ?_
       refine thenR ?_
       replace h:=Option.some.inj h; subst h
       exact fin_r (by kernel_rfl) rfl
      ·refine run_cF 43 (c93 30) (c93 33) j3_43 hc6 (by kernel_rfl) (by kernel_rfl) ?_
       refine run_k (by kernel_rfl) ?_
       refine inbN ?_
       refine thenN ?_
       refine run0z [] [0,1,5,6] [.sl false (a0.map (SL E_GTone)),.i a1,.i l1_5,.i (wr (l2_6 + 1))] ⟨[],0⟩ _ (by kernel_rfl) cj0 ?_
       replace hl2:=Option.some.inj hl2; subst hl2
       exact ⟨_,rfl,pi [],mkInto (ks:=[0,1,5,6]) (ys:=[.sl false (a0.map (SL E_GTone)),.i a1,.i l1_5,.i (wr (l2_6 + 1))]) (by kernel_rfl) (by kernel_rfl) (.k (.c (cleanMap _ _ (cl_SL cl_GTone))) (.k (.c rfl) (.k (.c rfl) (.k (.c rfl) .z)))) .z⟩
    ·refine run_cF 19 (c93 23) (c93 24) (decide (l2_6 < (y2.length:Int))) hc3 (by kernel_rfl) (by kernel_rfl) ?_
     replace hl2:=Option.some.inj hl2; subst hl2
     have hr:=rl2 _ rfl
     subst hr
     refine awp_p [0,1,5] [] (zipE [0,1,5] [.sl false (a0.map (SL E_GTone)),.i a1,.i l1_5]) ⟨[],0⟩ (by kernel_rfl) (?_)
     refine run_e 2 (by kernel_rfl) ?_
     refine thenE ?_
     refine ⟨⟨_,rfl⟩,?_⟩
     refine inbE ?_
     exact kl2 () rfl
   ·rintro ⟨⟩ rfl
    replace hl1:=elimL hl1
    refine inbN ?_
    refine thenN ?_
    refine run0z [] [0,1,5] [.sl false (a0.map (SL E_GTone)),.i a1,.i (wr (l1_5 + 1))] ⟨[],0⟩ _ (by kernel_rfl) cj0 ?_
    replace hl1:=Option.some.inj hl1; subst hl1
    exact ⟨_,rfl,pi [],mkInto (ks:=[0,1,5]) (ys:=[.sl false (a0.map (SL E_GTone)),.i a1,.i (wr (l1_5 + 1))]) (by kernel_rfl) (by kernel_rfl) (.k (.c (cleanMap _ _ (cl_SL cl_GTone))) (.k (.c rfl) (.k (.c rfl) .z))) .z⟩
  ·refine run_cF 10 (c93 11) (c93 12) (decide (l1_5 < (a0.length:Int))) hc1 (by kernel_rfl) (by kernel_rfl) ?_
   replace hl1:=Option.some.inj hl1; subst hl1
   have hr:=rl1 _ rfl
   subst hr
   refine awp_p [] [] (zipE [] []) ⟨[],0⟩ (by kernel_rfl) (?_)
   refine run_e 0 (by kernel_rfl) ?_
   refine thenE ?_
   refine ⟨⟨_,rfl⟩,?_⟩
   refine inbE ?_
   exact kl1 () rfl
 ·rintro ⟨⟩ rfl
  replace h:=elimL h
  refine thenN ?_
  refine run1z (c93 38) [] [4] [.bool true] ⟨[],0⟩ _ (by kernel_rfl) cj0 ?_
  refine run_t (by kernel_rfl) ?_
  replace h:=Option.some.inj h; subst h
  exact fin_r (by kernel_rfl) rfl
def f47 (a0:List (List GTone)):Option ((List Int)):=(loopN (σ:=(List Int × Int)) (τ:=(List Int)) (fun ((l1_3,l1_4):(List Int × Int))=>bif (decide (l1_4 < (a0.length:Int))) then ((loopN (σ:=(List Int × Int)) (τ:=(List Int)) (fun ((l2_3,l2_5):(List Int × Int))=>(ix a0 l1_4).bind fun y2=>bif (decide (l2_5 < (y2.length:Int))) then ((((ix y2 l2_5).bind fun y4=>(f92 l2_3 y4.from_).bind fun r5=>(f93 a0 y4.to_).bind fun r6=>bif r6 then ((f92 r5 y4.to_).bind fun r8=>some r8) else (some r5)):Option (List Int)).bind fun (j3_3:(List Int))=>some (.inl (j3_3,(wr (l2_5 + 1))))) else (some (.inr l2_3))) FUEL (l1_3,0)).bind fun (l2x_3:(List Int))=>some (.inl (l2x_3,(wr (l1_4 + 1))))) else (some (.inr l1_3))) FUEL (([0]:List Int),0)).bind fun (l1x_3:(List Int))=>some l1x_3
theorem f47_ok (a0:List (List GTone)) (r:((List Int))) (h:f47 a0 = some r):APure Tryz.prog 47 [.sl false (a0.map (SL E_GTone))] (.sl false (r.map AV.i)):=by
 refine apure (clK (cleanMap a0 _ (cl_SL cl_GTone)) clZ) (cleanMap r _ cl_i) ?_
 refine run_f 53 [.tmp 2] (c47 0) (zipE [0] [.sl false (a0.map (SL E_GTone))]) (by kernel_rfl) (by kernel_rfl) (by kernel_rfl) rfl ?_
 unfold f47 at h
 refine run1z (c47 2) [] [0] [.sl false (a0.map (SL E_GTone))] ⟨[],0⟩ _ (by kernel_rfl) cj0 ?_
 refine run1z (c47 4) [{ k:=3,n:=([0]:List Int).length,l:=([0]:List Int).map AV.i }] [0,3] [.sl false (a0.map (SL E_GTone)),.ms 0 0 ([0]:List Int).length] ⟨[(0,.cells 1 (([0]:List Int).map AV.i))],1⟩ _ (by kernel_rfl) (cjC (@Eq.refl (List AV) (([0]:List Int).map AV.i)) (cj1 (@Eq.refl Nat (([0]:List Int).length)))) ?_
 refine run_s (c47 5) (c47 38) (by kernel_rfl) ?_
 refine run1z (c47 7) [] [0,3,4] [.sl false (a0.map (SL E_GTone)),.ms 0 0 ([0]:List Int).length,.i 0] ⟨[(0,.cells 1 (([0]:List Int).map AV.i))],1⟩ _ (by kernel_rfl) cj0 ?_
 obtain ⟨l1x_3,hll1x,h⟩:=bindE h
 refine run_tq (fun (l1x_3:(List Int))=>(zipE [3] [.ms 1 0 l1x_3.length])) (fun (l1x_3:(List Int))=>⟨[(1,.cells 1 (l1x_3.map AV.i))],2⟩) (fun j=>l1x_3 = j) (fun kl1=>?_) ?_
 ·refine run_b 0 (c47 8) (by kernel_rfl) ?_
  refine run_l (c47 9) _ hll1x (fun ((l1_3,l1_4):(List Int × Int))=>(zipE [0,3,4] [.sl false (a0.map (SL E_GTone)),.ms 1 0 l1_3.length,.i l1_4])) (fun ((l1_3,l1_4):(List Int × Int))=>⟨[(1,.cells 1 (l1_3.map AV.i))],2⟩) [(1,0)] (by intro i e; cases e <;> exact Nat.le_of_ble_eq_true rfl) (by kernel_rfl) (mkInto (ks:=[0,3,4]) (ys:=[.sl false (a0.map (SL E_GTone)),.ms 0 0 ([0]:List Int).length,.i 0]) (by kernel_rfl) (by kernel_rfl) (.k (.c (cleanMap _ _ (cl_SL cl_GTone))) (.k (.ms rfl rfl) (.k (.c rfl) .z))) (.k (x':=.cells 1 (([0]:List Int).map AV.i)) (by kernel_rfl) (.cells (.r (cleanMap _ _ cl_i))) .z)) ?_
  rintro ⟨l1_3,l1_4⟩ out hl1 rl1
  refine run_s (c47 10) (c47 15) (by kernel_rfl) ?_
  refine run1z (c47 12) [{},{},{ k:=1,n:=a0.length }] [0,3,4,10] [.sl false (a0.map (SL E_GTone)),.ms 1 0 l1_3.length,.i l1_4,.bool (decide (l1_4 < (a0.length:Int)))] ⟨[(1,.cells 1 (l1_3.map AV.i))],2⟩ _ (by kernel_rfl) (cj1 (mapLen a0 (SL E_GTone))) ?_
  rcases iteE hl1 with ⟨hc1,hl1⟩ | ⟨hc1,hl1⟩
  ·refine run_cT 10 (c47 13) (c47 14) (decide (l1_4 < (a0.length:Int))) hc1 (by kernel_rfl) (by kernel_rfl) ?_
   refine run_k (by kernel_rfl) ?_
   refine thenN ?_
   refine run_s (c47 16) (c47 37) (by kernel_rfl) ?_
   refine run_b 1 (c47 17) (by kernel_rfl) ?_
   refine run1z (c47 19) [] [0,3,4,5] [.sl false (a0.map (SL E_GTone)),.ms 1 0 l1_3.length,.i l1_4,.i 0] ⟨[(1,.cells 1 (l1_3.map AV.i))],2⟩ _ (by kernel_rfl) cj0 ?_
   obtain ⟨l2x_3,hll2x,hl1⟩:=bindE hl1
   refine run_tq (fun (l2x_3:(List Int))=>(zipE [0,3,4] [.sl false (a0.map (SL E_GTone)),.ms 2 0 l2x_3.length,.i l1_4])) (fun (l2x_3:(List Int))=>⟨[(2,.cells 1 (l2x_3.map AV.i))],3⟩) (fun j=>l2x_3 = j) (fun kl2=>?_) ?_
   ·refine run_b 2 (c47 20) (by kernel_rfl) ?_
    refine run_l (c47 21) _ hll2x (fun ((l2_3,l2_5):(List Int × Int))=>(zipE [0,3,4,5] [.sl false (a0.map (SL E_GTone)),.ms 2 0 l2_3.length,.i l1_4,.i l2_5])) (fun ((l2_3,l2_5):(List Int × Int))=>⟨[(2,.cells 1 (l2_3.map AV.i))],3⟩) [(2,1)] (by intro i e; cases e <;> exact Nat.le_of_ble_eq_true rfl) (by kernel_rfl) (mkInto (ks:=[0,3,4,5]) (ys:=[.sl false (a0.map (SL E_GTone)),.ms 1 0 l1_3.length,.i l1_4,.i 0]) (by kernel_rfl) (by kernel_rfl) (.k (.c (cleanMap _ _ (cl_SL cl_GTone))) (.k (.ms rfl rfl) (.k (.c rfl) (.k (.c rfl) .z)))) (.k (x':=.cells 1 (l1_3.map AV.i)) (by kernel_rfl) (.cells (.r (cleanMap _ _ cl_i))) .z)) ?_
    rintro ⟨l2_3,l2_5⟩ out hl2 rl2
    refine run_s (c47 22) (c47 27) (by kernel_rfl) ?_
    obtain ⟨y2,hy2,hl2⟩:=bindE hl2
    refine run1z (c47 24) [{},{},{},{ k:=1,x:=(SL E_GTone) y2 },{},{ k:=1,n:=y2.length }] [0,3,4,5,19] [.sl false (a0.map (SL E_GTone)),.ms 2 0 l2_3.length,.i l1_4,.i l2_5,.bool (decide (l2_5 < (y2.length:Int)))] ⟨[(2,.cells 1 (l2_3.map AV.i))],3⟩ _ (by kernel_rfl) (cjC ((ixE hy2).1) (cjC (mapGet (SL E_GTone) (ixE hy2).2) (cj1 (mapLen y2 E_GTone)))) ?_
    rcases iteE hl2 with ⟨hc3,hl2⟩ | ⟨hc3,hl2⟩
    ·refine run_cT 19 (c47 25) (c47 26) (decide (l2_5 < (y2.length:Int))) hc3 (by kernel_rfl) (by kernel_rfl) ?_
     refine run_k (by kernel_rfl) ?_
     refine thenN ?_
     obtain ⟨j3_3,hj3,hl2⟩:=bindE hl2
     refine run_jq (c47 28) (c47 36) (fun (j3_3:(List Int))=>(zipE [0,3,4,5] [.sl false (a0.map (SL E_GTone)),.ms 7 0 j3_3.length,.i l1_4,.i l2_5])) (fun (j3_3:(List Int))=>⟨[(7,.cells 1 (j3_3.map AV.i))],8⟩) (fun j=>j3_3 = j) (by kernel_rfl) (fun kj3=>?_) ?_
     ·refine run_b 3 (c47 29) (by kernel_rfl) ?_
      obtain ⟨y4,hy4,hj3⟩:=bindE hj3
      obtain ⟨r5,hr5,hj3⟩:=bindE hj3
      refine run1z (c47 31) [{},{},{},{ k:=1,x:=(SL E_GTone) y2 },{},{},{ k:=1,x:=E_GTone y4 },{},{},{ c:=some (.ms 4 0 r5.length,⟨[(4,.cells 1 (r5.map AV.i))],5⟩) }] [0,3,4,5] [.sl false (a0.map (SL E_GTone)),.ms 4 0 r5.length,.i l1_4,.i l2_5] ⟨[(4,.cells 1 (r5.map AV.i))],5⟩ _ (by kernel_rfl) (cjC ((ixE hy2).1) (cjC (mapGet (SL E_GTone) (ixE hy2).2) (cjC ((ixE hy4).1) (cjC (mapGet E_GTone (ixE hy4).2) (cj1 (callF (f92_ok l2_3 y4.from_ _ hr5) [(0,2)] [(4,2)] [] [.ms 2 0 l2_3.length,.i y4.from_] ⟨[(2,.cells 1 (l2_3.map AV.i))],3⟩ (.ms 4 0 r5.length) ⟨[(4,.cells 1 (r5.map AV.i))],5⟩ (by kernel_rfl) (.k (.ms rfl rfl) (.k (.c rfl) .z)) (.ms rfl rfl) (.k (x':=.cells 1 (l2_3.map AV.i)) (by kernel_rfl) (.cells (.r (cleanMap _ _ cl_i))) .z) (.d (x':=.cells 1 (r5.map AV.i)) rfl (by kernel_rfl) (.cells (.r (cleanMap _ _ cl_i))) .z))))))) ?_
      obtain ⟨r6,hr6,hj3⟩:=bindE hj3
      refine run1z (c47 33) [{},{},{},{ k:=1,x:=(SL E_GTone) y2 },{},{},{ k:=1,x:=E_GTone y4 },{},{},{ c:=some (.bool r6,⟨[(4,.cells 1 (r5.map AV.i))],5⟩) }] [0,3,4,5,41] [.sl false (a0.map (SL E_GTone)),.ms 4 0 r5.length,.i l1_4,.i l2_5,.bool r6] ⟨[(4,.cells 1 (r5.map AV.i))],5⟩ _ (by kernel_rfl) (cjC ((ixE hy2).1) (cjC (mapGet (SL E_GTone) (ixE hy2).2) (cjC ((ixE hy4).1) (cjC (mapGet E_GTone (ixE hy4).2) (cj1 (f93_ok a0 y4.to_ _ hr6 ⟨[(4,.cells 1 (r5.map AV.i))],5⟩)))))) ?_
      rcases iteE hj3 with ⟨hc7,hj3⟩ | ⟨hc7,hj3⟩
      ·refine run_cT 41 (c47 34) (c47 35) r6 hc7 (by kernel_rfl) (by kernel_rfl) ?_
       obtain ⟨r8,hr8,hj3⟩:=bindE hj3
       refine run0z [{},{},{},{ k:=1,x:=(SL E_GTone) y2 },{},{},{ k:=1,x:=E_GTone y4 },{},{},{ c:=some (.ms 6 0 r8.length,⟨[(6,.cells 1 (r8.map AV.i))],7⟩) }] [0,3,4,5] [.sl false (a0.map (SL E_GTone)),.ms 6 0 r8.length,.i l1_4,.i l2_5] ⟨[(6,.cells 1 (r8.map AV.i))],7⟩ _ (by kernel_rfl) (cjC ((ixE hy2).1) (cjC (mapGet (SL E_GTone) (ixE hy2).2) (cjC ((ixE hy4).1) (cjC (mapGet E_GTone (ixE hy4).2) (cj1 (callF (f92_ok r5 y4.to_ _ hr8) [(0,4)] [(6,2)] [] [.ms 4 0 r5.length,.i y4.to_] ⟨[(4,.cells 1 (r5.map AV.i))],5⟩ (.ms 6 0 r8.length) ⟨[(6,.cells 1 (r8.map AV.i))],7⟩ (by kernel_rfl) (.k (.ms rfl rfl) (.k (.c rfl) .z)) (.ms rfl rfl) (.k (x':=.cells 1 (r5.map AV.i)) (by kernel_rfl) (.cells (.r (cleanMap _ _ cl_i))) .z) (.d (x':=.cells 1 (r8.map AV.i)) rfl (by kernel_rfl) (.cells (.r (cleanMap _ _ cl_i))) .z))))))) ?_
       replace hj3:=Option.some.inj hj3; subst hj3
       refine inbN ?_
       refine thenN ?_
       exact run_i 7 [(7,6)] [0,3,4,5] [.sl false (a0.map (SL E_GTone)),.ms 6 0 r8.length,.i l1_4,.i l2_5] (kj3 r8 rfl) (by intro i e; cases e <;> exact Nat.le_of_ble_eq_true rfl) (by kernel_rfl) (by kernel_rfl) (by kernel_rfl) (.k (.c (cleanMap _ _ (cl_SL cl_GTone))) (.k (.ms rfl rfl) (.k (.c rfl) (.k (.c rfl) .z)))) (.k (x':=.cells 1 (r8.map AV.i)) (by kernel_rfl) (.cells (.r (cleanMap _ _ cl_i))) .z)
      ·refine run_cF 41 (c47 34) (c47 35) r6 hc7 (by kernel_rfl) (by kernel_rfl) ?_
       replace hj3:=Option.some.inj hj3; subst hj3
       refine run_i 7 [(7,4)] [0,3,4,5] [.sl false (a0.map (SL E_GTone)),.ms 4 0 r5.length,.i l1_4,.i l2_5] (xs:=[.sl false (a0.map (SL E_GTone)),.ms 7 0 r5.length,.i l1_4,.i l2_5]) (S2:=⟨[(7,.cells 1 (r5.map AV.i))],8⟩) ?_ (by intro i e; cases e <;> exact Nat.le_of_ble_eq_true rfl) (by kernel_rfl) (by kernel_rfl) (by kernel_rfl) (.k (.c (cleanMap _ _ (cl_SL cl_GTone))) (.k (.ms rfl rfl) (.k (.c rfl) (.k (.c rfl) .z)))) (.k (x':=.cells 1 (r5.map AV.i)) (by kernel_rfl) (.cells (.r (cleanMap _ _ cl_i))) .z)
       refine run_k (by kernel_rfl) ?_
       refine inbN ?_
       refine thenN ?_
       exact kj3 r5 rfl
     ·rintro _ rfl
      refine run0z [] [0,3,4,5] [.sl false (a0.map (SL E_GTone)),.ms 7 0 j3_3.length,.i l1_4,.i (wr (l2_5 + 1))] ⟨[(7,.cells 1 (j3_3.map AV.i))],8⟩ _ (by kernel_rfl) cj0 ?_
      replace hl2:=Option.some.inj hl2; subst hl2
      exact ⟨_,rfl,pi [(2,7)],mkInto (ks:=[0,3,4,5]) (ys:=[.sl false (a0.map (SL E_GTone)),.ms 7 0 j3_3.length,.i l1_4,.i (wr (l2_5 + 1))]) (by kernel_rfl) (by kernel_rfl) (.k (.c (cleanMap _ _ (cl_SL cl_GTone))) (.k (.ms rfl rfl) (.k (.c rfl) (.k (.c rfl) .z)))) (.k (x':=.cells 1 (j3_3.map AV.i)) (by kernel_rfl) (.cells (.r (cleanMap _ _ cl_i))) .z)⟩
    ·refine run_cF 19 (c47 25) (c47 26) (decide (l2_5 < (y2.length:Int))) hc3 (by kernel_rfl) (by kernel_rfl) ?_
     replace hl2:=Option.some.inj hl2; subst hl2
     have hr:=rl2 _ rfl
     subst hr
     refine awp_p [0,3,4] [2] (zipE [0,3,4] [.sl false (a0.map (SL E_GTone)),.ms 2 0 l2_3.length,.i l1_4]) ⟨[(2,.cells 1 (l2_3.map AV.i))],3⟩ (by kernel_rfl) (?_)
     refine run_e 2 (by kernel_rfl) ?_
     refine thenE ?_
     refine ⟨⟨_,rfl⟩,?_⟩
     refine inbE ?_
     exact kl2 l2_3 rfl
   ·rintro _ rfl
    refine inbN ?_
    refine thenN ?_
    refine run0z [] [0,3,4] [.sl false (a0.map (SL E_GTone)),.ms 2 0 l2x_3.length,.i (wr (l1_4 + 1))] ⟨[(2,.cells 1 (l2x_3.map AV.i))],3⟩ _ (by kernel_rfl) cj0 ?_
    replace hl1:=Option.some.inj hl1; subst hl1
    exact ⟨_,rfl,pi [(1,2)],mkInto (ks:=[0,3,4]) (ys:=[.sl false (a0.map (SL E_GTone)),.ms 2 0 l2x_3.length,.i (wr (l1_4 + 1))]) (by kernel_rfl) (by kernel_rfl) (.k (.c (cleanMap _ _ (cl_SL cl_GTone))) (.k (.ms rfl rfl) (.k (.c rfl) .z))) (.k (x':=.cells 1 (l2x_3.map AV.i)) (by kernel_rfl) (.cells (.r (cleanMap _ _ cl_i))) .z)⟩
  ·refine run_cF 10 (c47 13) (c47 14) (decide (l1_4 < (a0.length:Int))) hc1 (by kernel_rfl) (by kernel_rfl) ?_
   replace hl1:=Option.some.inj hl1; subst hl1
   have hr:=rl1 _ rfl
   subst hr
   refine awp_p [3] [1] (zipE [3] [.ms 1 0 l1_3.length]) ⟨[(1,.cells 1 (l1_3.map AV.i))],2⟩ (by kernel_rfl) (?_)
   refine run_e 0 (by kernel_rfl) ?_
   refine thenE ?_
   refine ⟨⟨_,rfl⟩,?_⟩
   refine inbE ?_
   exact kl1 l1_3 rfl
 ·rintro _ rfl
  refine thenN ?_
  refine run1z (c47 40) [] [2] [.ms 1 0 l1x_3.length] ⟨[(1,.cells 1 (l1x_3.map AV.i))],2⟩ _ (by kernel_rfl) cj0 ?_
  refine run_z 1 1 (l1x_3.map AV.i) [2] [.ms 1 0 l1x_3.length] (xs:=[.sl false (l1x_3.map AV.i)]) (S2:=⟨[],2⟩) ?_ (by kernel_rfl) (by kernel_rfl) (.k (.m (mLe l1x_3 AV.i) (mapAll l1x_3 AV.i)) .z) .z rfl rfl
  refine run_t (by kernel_rfl) ?_
  replace h:=Option.some.inj h; subst h
  exact fin_r (by kernel_rfl) rfl
def f17 (a0:List (List GTone)):Option (((List Int)) × Int):=(f38 a0).bind fun r1=>bif (decide (r1 ≠ 0)) then (some (([]:List Int),r1)) else ((f47 a0).bind fun r3=>some (r3,0))
theorem f17_ok (a0:List (List GTone)) (r:(((List Int)) × Int)) (h:f17 a0 = some r):APure Tryz.prog 17 [.sl false (a0.map (SL E_GTone))] (.tup [.sl false (r.1.map AV.i),.i r.2]):=by
 refine apure (clK (cleanMap a0 _ (cl_SL cl_GTone)) clZ) (clK (cleanMap r.1 _ cl_i) (clK rfl clZ)) ?_
 refine run_f 12 [.tmp 2,.tmp 3] (c17 0) (zipE [0] [.sl false (a0.map (SL E_GTone))]) (by kernel_rfl) (by kernel_rfl) (by kernel_rfl) rfl ?_
 unfold f17 at h
 refine run1z (c17 2) [] [0] [.sl false (a0.map (SL E_GTone))] ⟨[],0⟩ _ (by kernel_rfl) cj0 ?_
 refine run_s (c17 3) (c17 12) (by kernel_rfl) ?_
 obtain ⟨r1,hr1,h⟩:=bindE h
 refine run1z (c17 5) [{},{ c:=some (.i r1,⟨[],0⟩) }] [0,4] [.sl false (a0.map (SL E_GTone)),.i r1] ⟨[],0⟩ _ (by kernel_rfl) (cj1 (f38_ok a0 _ hr1 ⟨[],0⟩)) ?_
 refine run1z (c17 7) [] [0,4,8] [.sl false (a0.map (SL E_GTone)),.i r1,.bool (decide (r1 ≠ 0))] ⟨[],0⟩ _ (by kernel_rfl) cj0 ?_
 rcases iteE h with ⟨hc2,h⟩ | ⟨hc2,h⟩
 ·refine run_cT 8 (c17 8) (c17 11) (decide (r1 ≠ 0)) hc2 (by kernel_rfl) (by kernel_rfl) ?_
  refine run1z (c17 10) [] [2,3] [.sl true [],.i r1] ⟨[],0⟩ _ (by kernel_rfl) cj0 ?_
  refine run_i 0 [] [2,3] [.sl true [],.i r1] (xs:=[.sl false (([]:List Int).map AV.i),.i r1]) (S2:=⟨[],0⟩) ?_ (by intro i e; cases e <;> exact Nat.le_of_ble_eq_true rfl) (by kernel_rfl) (by kernel_rfl) (by kernel_rfl) (.k (.s (cleanMap (([]:List Int)) _ cl_i)) (.k (.c rfl) .z)) .z
  refine run_t (by kernel_rfl) ?_
  refine thenR ?_
  replace h:=Option.some.inj h; subst h
  exact fin_r (by kernel_rfl) rfl
 ·refine run_cF 8 (c17 8) (c17 11) (decide (r1 ≠ 0)) hc2 (by kernel_rfl) (by kernel_rfl) ?_
  refine run_k (by kernel_rfl) ?_
  refine thenN ?_
  obtain ⟨r3,hr3,h⟩:=bindE h
  refine run1z (c17 14) [{},{ c:=some (.sl false (r3.map AV.i),⟨[],0⟩) }] [2,3] [.sl false (r3.map AV.i),.i 0] ⟨[],0⟩ _ (by kernel_rfl) (cj1 (f47_ok a0 _ hr3 ⟨[],0⟩)) ?_
  refine run_t (by kernel_rfl) ?_
  replace h:=Option.some.inj h; subst h
  exact fin_r (by kernel_rfl) rfl
def f3 (a0:List (List GTone)) (a1:GInstrument):Option Bool:=(f12 a0).bind fun r1=>bif (!r1) then ((f13).bind fun r3=>some r3) else ((f14 a0 a1).bind fun r4=>(f15 a0 a1).bind fun r5=>((bif (decide (r4.1 ≠ r5.1)) then (some true) else (bif (decide (r4.2.1 ≠ r5.2.1)) then (some true) else (some (decide (r4.2.2 ≠ r5.2.2))))):Option Bool).bind fun (j1_43:Bool)=>bif j1_43 then (some false) else ((f16 a0).bind fun r9=>(f17 a0).bind fun r10=>((bif (decide (r9.2 = r10.2)) then ((f18 r9.1 r10.1).bind fun r12=>bif r12 then ((f13).bind fun r14=>some r14) else (some false)) else (some false)):Option Bool).bind fun (j2_4:Bool)=>some j2_4))
theorem f3_ok (a0:List (List GTone)) (a1:GInstrument) (r:Bool) (h:f3 a0 a1 = some r):APure Tryz.prog 3 [.sl false (a0.map (SL E_GTone)),E_GInstrument a1] (.bool r):=by
 refine apure (clK (cleanMap a0 _ (cl_SL cl_GTone)) (clK (cl_GInstrument a1) clZ)) rfl ?_
 refine run_f 65 [.tmp 4] (c3 0) (zipE [0,1] [.sl false (a0.map (SL E_GTone)),E_GInstrument a1]) (by kernel_rfl) (by kernel_rfl) (by kernel_rfl) rfl ?_
 unfold f3 at h
 refine run1z (c3 2) [] [0,3] [.sl false (a0.map (SL E_GTone)),.mp 0 0 0] ⟨[(0,.cells 2 [E_GInstrument a1])],1⟩ _ (by kernel_rfl) cj0 ?_
 refine run_s (c3 3) (c3 10) (by kernel_rfl) ?_
 obtain ⟨r1,hr1,h⟩:=bindE h
 refine run1z (c3 5) [{},{ c:=some (.bool r1,⟨[(0,.cells 2 [E_GInstrument a1])],1⟩) }] [0,3,15] [.sl false (a0.map (SL E_GTone)),.mp 0 0 0,.bool (!r1)] ⟨[(0,.cells 2 [E_GInstrument a1])],1⟩ _ (by kernel_rfl) (cj1 (f12_ok a0 _ hr1 ⟨[(0,.cells 2 [E_GInstrument a1])],1⟩)) ?_
 rcases iteE h with ⟨hc2,h⟩ | ⟨hc2,h⟩
 ·refine run_cT 15 (c3 6) (c3 9) (!r1) hc2 (by kernel_rfl) (by kernel_rfl) ?_
  obtain ⟨r3,hr3,h⟩:=bindE h
  refine run1z (c3 8) [{ c:=some (.bool r3,⟨[(0,.cells 2 [E_GInstrument a1])],1⟩) }] [4] [.bool r3] ⟨[],1⟩ _ (by kernel_rfl) (cj1 (f13_ok  _ hr3 ⟨[(0,.cells 2 [E_GInstrument a1])],1⟩)) ?_
  refine run_t (by kernel_rfl) ?_
  refine thenR ?_
  replace h:=Option.some.inj h; subst h
  exact fin_r (by kernel_rfl) rfl
 ·refine run_cF 15 (c3 6) (c3 9) (!r1) hc2 (by kernel_rfl) (by kernel_rfl) ?_
  refine run_k (by kernel_rfl) ?_
  refine thenN ?_
  obtain ⟨r4,hr4,h⟩:=bindE h
  refine run1z (c3 12) [{},{},{ c:=some (.tup [.i r4.1,.i r4.2.1,.i r4.2.2],⟨[(0,.cells 2 [E_GInstrument a1])],1⟩) }] [0,3,5,6,7] [.sl false (a0.map (SL E_GTone)),.mp 0 0 0,.i r4.1,.i r4.2.1,.i r4.2.2] ⟨[(0,.cells 2 [E_GInstrument a1])],1⟩ _ (by kernel_rfl) (cj1 (f14_ok a0 a1 _ hr4 ⟨[(0,.cells 2 [E_GInstrument a1])],1⟩)) ?_
  obtain ⟨r5,hr5,h⟩:=bindE h
  refine run1z (c3 14) [{},{},{ c:=some (.tup [.i r5.1,.i r5.2.1,.i r5.2.2],⟨[(0,.cells 2 [E_GInstrument a1])],1⟩) }] [0,5,6,7,8,9,10] [.sl false (a0.map (SL E_GTone)),.i r4.1,.i r4.2.1,.i r4.2.2,.i r5.1,.i r5.2.1,.i r5.2.2] ⟨[],1⟩ _ (by kernel_rfl) (cj1 (f15_ok a0 a1 _ hr5 ⟨[(0,.cells 2 [E_GInstrument a1])],1⟩)) ?_
  refine run_s (c3 15) (c3 22) (by kernel_rfl) ?_
  obtain ⟨j1_43,hj1,h⟩:=bindE h
  refine run_gq (c3 17) (fun (j1_43:Bool)=>(zipE [0,43] [.sl false (a0.map (SL E_GTone)),.bool j1_43])) (fun (j1_43:Bool)=>⟨[],1⟩) (fun j=>j1_43 = j) (fun kj1=>?_) ?_
  ·rcases iteE hj1 with ⟨hc6,hj1⟩ | ⟨hc6,hj1⟩
   ·replace hj1:=Option.some.inj hj1; subst hj1
    exact run1z (c3 17) [{},{},{},{},{ g:=false },{ g:=false },{ g:=false },{ k:=1,b:=true },{},{ g:=false },{ g:=false },{ g:=false }] [0,43] [.sl false (a0.map (SL E_GTone)),.bool true] ⟨[],1⟩ _ (by kernel_rfl) (cjC (hc6) (cjC (hc6) (cjC (hc6) (cjC (hc6) (cjC (Eq.refl true) (cjC (Eq.refl true) (cj1 (Eq.refl true)))))))) (kj1 true rfl)
   ·rcases iteE hj1 with ⟨hc7,hj1⟩ | ⟨hc7,hj1⟩
    ·replace hj1:=Option.some.inj hj1; subst hj1
     exact run1z (c3 17) [{},{},{},{},{},{},{},{ k:=1,b:=false },{},{ g:=false },{ g:=false },{ g:=false },{ k:=1,b:=true }] [0,43] [.sl false (a0.map (SL E_GTone)),.bool true] ⟨[],1⟩ _ (by kernel_rfl) (cjC (hc6) (cjC (hc6) (cjC (hc6) (cjC (hc6) (cjC (hc7) (cjC (hc7) (cjC (hc7) (cj1 (hc7))))))))) (kj1 true rfl)
    ·replace hj1:=Option.some.inj hj1; subst hj1
     exact run1z (c3 17) [{},{},{},{},{},{},{},{ k:=1,b:=false },{},{},{},{},{ k:=1,b:=false }] [0,43] [.sl false (a0.map (SL E_GTone)),.bool (decide (r4.2.2 ≠ r5.2.2))] ⟨[],1⟩ _ (by kernel_rfl) (cjC (hc6) (cjC (hc6) (cjC (hc6) (cjC (hc6) (cjC (hc7) (cjC (hc7) (cjC (hc7) (cj1 (hc7))))))))) (kj1 (decide (r4.2.2 ≠ r5.2.2)) rfl)
  ·rintro _ rfl
   rcases iteE h with ⟨hc8,h⟩ | ⟨hc8,h⟩
   ·refine run_cT 43 (c3 18) (c3 21) j1_43 hc8 (by kernel_rfl) (by kernel_rfl) ?_
    refine run1z (c3 20) [] [4] [.bool false] ⟨[],1⟩ _ (by kernel_rfl) cj0 ?_
    refine run_t (by kernel_rfl) ?_
    refine thenR ?_
    replace h:=Option.some.inj h; subst h
    exact fin_r (by kernel_rfl) rfl
   ·refine run_cF 43 (c3 18) (c3 21) j1_43 hc8 (by kernel_rfl) (by kernel_rfl) ?_
    refine run_k (by kernel_rfl) ?_
    refine thenN ?_
    obtain ⟨r9,hr9,h⟩:=bindE h
    refine run1z (c3 24) [{},{ c:=some (.tup [.sl false (r9.1.map AV.i),.i r9.2],⟨[],1⟩) }] [0,7,11] [.sl false (a0.map (SL E_GTone)),.i r9.2,.sl false (r9.1.map AV.i)] ⟨[],1⟩ _ (by kernel_rfl) (cj1 (f16_ok a0 _ hr9 ⟨[],1⟩)) ?_
    obtain ⟨r10,hr10,h⟩:=bindE h
    refine run1z (c3 26) [{},{ c:=some (.tup [.sl false (r10.1.map AV.i),.i r10.2],⟨[],1⟩) }] [7,10,11,12] [.i r9.2,.i r10.2,.sl false (r9.1.map AV.i),.sl false (r10.1.map AV.i)] ⟨[],1⟩ _ (by kernel_rfl) (cj1 (f17_ok a0 _ hr10 ⟨[],1⟩)) ?_
    obtain ⟨j2_4,hj2,h⟩:=bindE h
    refine run_gq (c3 28) (fun (j2_4:Bool)=>(zipE [4] [.bool j2_4])) (fun (j2_4:Bool)=>⟨[],1⟩) (fun j=>j2_4 = j) (fun kj2=>?_) ?_
    ·rcases iteE hj2 with ⟨hc11,hj2⟩ | ⟨hc11,hj2⟩
     ·obtain ⟨r12,hr12,hj2⟩:=bindE hj2
      rcases iteE hj2 with ⟨hc13,hj2⟩ | ⟨hc13,hj2⟩
      ·obtain ⟨r14,hr14,hj2⟩:=bindE hj2
       replace hj2:=Option.some.inj hj2; subst hj2
       exact run1z (c3 28) [{},{},{},{},{},{},{ c:=some (.bool r12,⟨[],1⟩) },{ k:=1,b:=true },{},{ c:=some (.bool r14,⟨[],1⟩) },{ k:=1,b:=true }] [4] [.bool r14] ⟨[],1⟩ _ (by kernel_rfl) (cjC (hc11) (cjC (hc11) (cjC (hc11) (cjC (f18_ok r9.1 r10.1 _ hr12 ⟨[],1⟩) (cjC (hc11) (cjC (hc13) (cjC (f13_ok  _ hr14 ⟨[],1⟩) (cj1 (hc13))))))))) (kj2 r14 rfl)
      ·replace hj2:=Option.some.inj hj2; subst hj2
       exact run1z (c3 28) [{},{},{},{},{},{},{ c:=some (.bool r12,⟨[],1⟩) },{ k:=1,b:=true },{},{ g:=false },{ k:=1,b:=false }] [4] [.bool false] ⟨[],1⟩ _ (by kernel_rfl) (cjC (hc11) (cjC (hc11) (cjC (hc11) (cjC (f18_ok r9.1 r10.1 _ hr12 ⟨[],1⟩) (cjC (hc11) (cjC (hc13) (cj1 (hc13)))))))) (kj2 false rfl)
     ·replace hj2:=Option.some.inj hj2; subst hj2
      exact run1z (c3 28) [{},{},{},{},{ g:=false },{ g:=false },{ g:=false },{ k:=1,b:=false },{},{ g:=false }] [4] [.bool false] ⟨[],1⟩ _ (by kernel_rfl) (cjC (hc11) (cjC (hc11) (cjC (hc11) (cjC (hc11) (cj1 (Eq.refl false)))))) (kj2 false rfl)
    ·rintro _ rfl
     refine run_t (by kernel_rfl) ?_
     replace h:=Option.some.inj h; subst h
     exact fin_r (by kernel_rfl) rfl
end Go.Proofs.YtplpfocfcppajaaGreat
