/-
 Functions of the program as Lean functions,and the walks. Written by a program of ours.
-/
import Derived.Test.YtodkhgjhodmeoaaGreatVb
namespace Go.Proofs.YtodkhgjhodmeoaaGreat
open Go Go.Am
set_option maxRecDepth 100000
set_option linter.all false
def f47 (a0 : List (List GTone)) (a1 : List GInstrument) (a2 : Int) : Option (((List Int)) × Int × Int) := (f102 a0).bind fun r1 => bif (decide (r1 ≠ 0)) then (some (([] : List Int),0,r1)) else ((f107 (a1.length : Int)).bind fun r3 => bif (decide (r3 ≠ 0)) then (some (([] : List Int),0,r3)) else ((loopN (σ := Int) (τ := (Unit ⊕ (((List Int)) × Int × Int))) (fun (l1_11 : Int) => bif (decide (l1_11 < (a1.length : Int))) then ((ix a1 l1_11).bind fun y6 => (f108 y6).bind fun r7 => bif (decide (r7 ≠ 0)) then (some (.inr (.inr (([] : List Int),0,r7)))) else (some (.inl (wr (l1_11 + 1))))) else (some (.inr (.inl ())))) FUEL 0).bind (Sum.elim (fun (_ : Unit) => ((bif (decide (a2 < 1)) then (some true) else (some (decide (6 < a2)))) : Option Bool).bind fun (j2_55 : Bool) => bif j2_55 then (some (([] : List Int),0,1)) else (bif (decide ((wr (a2 * (a1.length : Int))) < (a0.length : Int))) then (some (([] : List Int),0,90)) else ((loopN (σ := (List (List Int) × Int)) (τ := (List (List Int))) (fun ((l3_13,l3_14) : (List (List Int) × Int)) => bif (decide (l3_14 < (a0.length : Int))) then ((loopN (σ := (List Int × Int)) (τ := (List Int)) (fun ((l4_15,l4_16) : (List Int × Int)) => bif (decide (l4_16 < (a1.length : Int))) then (need (0 ≤ l3_14) <| need (0 ≤ (wr (l3_14 + 1))) <| need (l3_14.toNat ≤ (wr (l3_14 + 1)).toNat) <| need ((wr (l3_14 + 1)).toNat ≤ a0.length) <| (ix a1 l4_16).bind fun y18 => (f109 ((a0.take (wr (l3_14 + 1)).toNat).drop l3_14.toNat) y18 0).bind fun r19 => need (l4_15.length + 1 ≤ maxElems) <| some (.inl ((l4_15 ++ [r19.1]),(wr (l4_16 + 1))))) else (some (.inr l4_15))) FUEL (([] : List Int),0)).bind fun (l4x_15 : (List Int)) => need (l3_13.length + 1 ≤ maxElems) <| some (.inl ((l3_13 ++ [l4x_15]),(wr (l3_14 + 1))))) else (some (.inr l3_13))) FUEL (([] : List (List Int)),0)).bind fun (l3x_13 : (List (List Int))) => need (0 ≤ (a0.length : Int)) <| need ((a0.length : Int) ≤ (maxElems : Int)) <| (loopN (σ := (List Int × Int × List Int)) (τ := (Unit ⊕ (((List Int)) × Int × Int))) (fun ((l5_19,l5_20,l5_21) : (List Int × Int × List Int)) => (((f110 l3x_13 l5_21 (a1.length : Int) a2).bind fun r24 => ((bif r24.2 then (bif (decide (l5_20 < 0)) then (some true) else (some (decide (r24.1 < l5_20)))) else (some false)) : Option Bool).bind fun (j7_117 : Bool) => bif j7_117 then (((bif (decide (l5_21 = [])) then (some ([] : List Int)) else (need (l5_21.length ≤ maxElems) <| some l5_21)) : Option (List Int)).bind fun (j8_19 : (List Int)) => some (j8_19,r24.1)) else (some (l5_19,l5_20))) : Option (List Int × Int)).bind fun ((j6_19,j6_20) : (List Int × Int)) => (loopN (σ := (List Int × Int)) (τ := (List Int × Int)) (fun ((l9_21,l9_24) : (List Int × Int)) => ((bif (decide (0 ≤ l9_24)) then ((ix l9_21 l9_24).bind fun y31 => some (decide (y31 = (wr ((a1.length : Int) - 1))))) else (some false)) : Option Bool).bind fun (j10_135 : Bool) => bif j10_135 then ((ix l9_21 l9_24).bind fun y33 => some (.inl ((l9_21.set l9_24.toNat 0),(wr (l9_24 - 1))))) else (some (.inr (l9_21,l9_24)))) FUEL (l5_21,(wr ((l5_21.length : Int) - 1)))).bind fun ((l9x_21,l9x_24) : (List Int × Int)) => bif (decide (l9x_24 < 0)) then (some (.inr (.inr (j6_19,j6_20,0)))) else ((ix l9x_21 l9x_24).bind fun y35 => some (.inl (j6_19,j6_20,(l9x_21.set l9x_24.toNat (wr (y35 + 1))))))) FUEL (([] : List Int),-1,(List.replicate (a0.length : Int).toNat (0 : Int)))).bind (Sum.elim (fun (_ : Unit) => none) some)))) some)))
theorem f47_ok (a0 : List (List GTone)) (a1 : List GInstrument) (a2 : Int) (r : (((List Int)) × Int × Int)) (h : f47 a0 a1 a2 = some r) : APure Tryz.prog 47 [.sl false (a0.map (SL E_GTone)),.sl false (a1.map E_GInstrument),.i a2] (.tup [.sl false (r.1.map AV.i),.i r.2.1,.i r.2.2]) := by
 refine apure (clK (cleanMap a0 _ (cl_SL cl_GTone)) (clK (cleanMap a1 _ cl_GInstrument) (clK rfl clZ))) (clK (cleanMap r.1 _ cl_i) (clK rfl (clK rfl clZ))) ?_
 let v_0 : AV := .sl false (a1.map E_GInstrument)
 let v_1 : AV := .sl false (a0.map (SL E_GTone))
 refine run_f 151 [.tmp 6,.tmp 7,.tmp 8] (c47 0) (zipE [0,1,2] [v_1,v_0,.i a2]) (by kernel_rfl) (by kernel_rfl) (by kernel_rfl) rfl ?_
 unfold f47 at h
 refine run1z (c47 2) [] [0,1,2] [v_1,v_0,.i a2] ⟨[],0⟩ _ (by kernel_rfl) cj0 ?_
 refine run_s (c47 3) (c47 12) (by kernel_rfl) ?_
 obtain ⟨r1,hr1,h⟩ := bindE h
 refine run1z (c47 5) [{},{ c := some (.i r1,⟨[],0⟩) }] [0,1,2,9] [v_1,v_0,.i a2,.i r1] ⟨[],0⟩ _ (by kernel_rfl) (cj1 (f102_ok a0 _ hr1 ⟨[],0⟩)) ?_
 refine run1z (c47 7) [] [0,1,2,9,28] [v_1,v_0,.i a2,.i r1,.bool (decide (r1 ≠ 0))] ⟨[],0⟩ _ (by kernel_rfl) cj0 ?_
 rcases iteE h with ⟨hc2,h⟩ | ⟨hc2,h⟩
 ·refine run_cT 28 (c47 8) (c47 11) (decide (r1 ≠ 0)) hc2 (by kernel_rfl) (by kernel_rfl) ?_
  refine run1z (c47 10) [] [6,7,8] [.sl true [],.i 0,.i r1] ⟨[],0⟩ _ (by kernel_rfl) cj0 ?_
  refine run_i 0 [] [6,7,8] [.sl true [],.i 0,.i r1] (xs := [.sl false (([] : List Int).map AV.i),.i 0,.i r1]) (S2 := ⟨[],0⟩) ?_ (by intro i e; cases e <;> exact Nat.le_of_ble_eq_true rfl) (by kernel_rfl) (by kernel_rfl) (by kernel_rfl) (.k (.s (cleanMap (([] : List Int)) _ cl_i)) (.k (.c rfl) (.k (.c rfl) .z))) .z
  refine run_t (by kernel_rfl) ?_
  refine thenR ?_
  replace h := Option.some.inj h; subst h
  exact fin_r (by kernel_rfl) rfl
 ·refine run_cF 28 (c47 8) (c47 11) (decide (r1 ≠ 0)) hc2 (by kernel_rfl) (by kernel_rfl) ?_
  refine run_k (by kernel_rfl) ?_
  refine thenN ?_
  refine run_s (c47 13) (c47 22) (by kernel_rfl) ?_
  obtain ⟨r3,hr3,h⟩ := bindE h
  refine run1z (c47 15) [{},{ k := 1,n := a1.length },{ c := some (.i r3,⟨[],0⟩) }] [0,1,2,10] [v_1,v_0,.i a2,.i r3] ⟨[],0⟩ _ (by kernel_rfl) (cjC (mapLen a1 E_GInstrument) (cj1 (f107_ok (a1.length : Int) _ hr3 ⟨[],0⟩))) ?_
  refine run1z (c47 17) [] [0,1,2,10,34] [v_1,v_0,.i a2,.i r3,.bool (decide (r3 ≠ 0))] ⟨[],0⟩ _ (by kernel_rfl) cj0 ?_
  rcases iteE h with ⟨hc4,h⟩ | ⟨hc4,h⟩
  ·refine run_cT 34 (c47 18) (c47 21) (decide (r3 ≠ 0)) hc4 (by kernel_rfl) (by kernel_rfl) ?_
   refine run1z (c47 20) [] [6,7,8] [.sl true [],.i 0,.i r3] ⟨[],0⟩ _ (by kernel_rfl) cj0 ?_
   refine run_i 0 [] [6,7,8] [.sl true [],.i 0,.i r3] (xs := [.sl false (([] : List Int).map AV.i),.i 0,.i r3]) (S2 := ⟨[],0⟩) ?_ (by intro i e; cases e <;> exact Nat.le_of_ble_eq_true rfl) (by kernel_rfl) (by kernel_rfl) (by kernel_rfl) (.k (.s (cleanMap (([] : List Int)) _ cl_i)) (.k (.c rfl) (.k (.c rfl) .z))) .z
   refine run_t (by kernel_rfl) ?_
   refine thenR ?_
   replace h := Option.some.inj h; subst h
   exact fin_r (by kernel_rfl) rfl
  ·refine run_cF 34 (c47 18) (c47 21) (decide (r3 ≠ 0)) hc4 (by kernel_rfl) (by kernel_rfl) ?_
   refine run_k (by kernel_rfl) ?_
   refine thenN ?_
   refine run_s (c47 23) (c47 45) (by kernel_rfl) ?_
   refine run1z (c47 25) [] [0,1,2,11] [v_1,v_0,.i a2,.i 0] ⟨[],0⟩ _ (by kernel_rfl) cj0 ?_
   obtain ⟨ol1x,hll1x,h⟩ := bindE h
   refine run_tq (fun (_ : Unit) => (zipE [0,1,2] [v_1,v_0,.i a2])) (fun (_ : Unit) => ⟨[],0⟩) (fun j => ol1x = .inl j) (fun kl1 => ?_) ?_
   ·refine run_b 0 (c47 26) (by kernel_rfl) ?_
    refine run_l (c47 27) _ hll1x (fun (l1_11 : Int) => (zipE [0,1,2,11] [v_1,v_0,.i a2,.i l1_11])) (fun (l1_11 : Int) => ⟨[],0⟩) [] (by intro i e; cases e <;> exact Nat.le_of_ble_eq_true rfl) (by kernel_rfl) (mkInto (ks := [0,1,2,11]) (ys := [v_1,v_0,.i a2,.i 0]) (by kernel_rfl) (by kernel_rfl) (.k (.c (cleanMap _ _ (cl_SL cl_GTone))) (.k (.c (cleanMap _ _ cl_GInstrument)) (.k (.c rfl) (.k (.c rfl) .z)))) .z) ?_
    rintro l1_11 out hl1 rl1
    refine run_s (c47 28) (c47 33) (by kernel_rfl) ?_
    refine run1z (c47 30) [{},{},{ k := 1,n := a1.length }] [0,1,2,11,39] [v_1,v_0,.i a2,.i l1_11,.bool (decide (l1_11 < (a1.length : Int)))] ⟨[],0⟩ _ (by kernel_rfl) (cj1 (mapLen a1 E_GInstrument)) ?_
    rcases iteE hl1 with ⟨hc5,hl1⟩ | ⟨hc5,hl1⟩
    ·refine run_cT 39 (c47 31) (c47 32) (decide (l1_11 < (a1.length : Int))) hc5 (by kernel_rfl) (by kernel_rfl) ?_
     refine run_k (by kernel_rfl) ?_
     refine thenN ?_
     refine run_s (c47 34) (c47 44) (by kernel_rfl) ?_
     refine run_b 1 (c47 35) (by kernel_rfl) ?_
     obtain ⟨y6,hy6,hl1⟩ := bindE hl1
     obtain ⟨r7,hr7,hl1⟩ := bindE hl1
     refine run1z (c47 37) [{},{},{ k := 1,x := E_GInstrument y6 },{},{ c := some (.i r7,⟨[],0⟩) }] [0,1,2,11,12] [v_1,v_0,.i a2,.i l1_11,.i r7] ⟨[],0⟩ _ (by kernel_rfl) (cjC ((ixE hy6).1) (cjC (mapGet E_GInstrument (ixE hy6).2) (cj1 (f108_ok y6 _ hr7 ⟨[],0⟩)))) ?_
     refine run1z (c47 39) [] [0,1,2,11,12,48] [v_1,v_0,.i a2,.i l1_11,.i r7,.bool (decide (r7 ≠ 0))] ⟨[],0⟩ _ (by kernel_rfl) cj0 ?_
     rcases iteE hl1 with ⟨hc8,hl1⟩ | ⟨hc8,hl1⟩
     ·refine run_cT 48 (c47 40) (c47 43) (decide (r7 ≠ 0)) hc8 (by kernel_rfl) (by kernel_rfl) ?_
      refine run1z (c47 42) [] [6,7,8] [.sl true [],.i 0,.i r7] ⟨[],0⟩ _ (by kernel_rfl) cj0 ?_
      replace hl1 := Option.some.inj hl1; subst hl1
      have hr := rl1 _ rfl
      subst hr
      replace h := elimR h
      refine run_i 0 [] [6,7,8] [.sl true [],.i 0,.i r7] (xs := [.sl false (([] : List Int).map AV.i),.i 0,.i r7]) (S2 := ⟨[],0⟩) ?_ (by intro i e; cases e <;> exact Nat.le_of_ble_eq_true rfl) (by kernel_rfl) (by kernel_rfl) (by kernel_rfl) (.k (.s (cleanMap (([] : List Int)) _ cl_i)) (.k (.c rfl) (.k (.c rfl) .z))) .z
      refine run_t (by kernel_rfl) ?_
      refine inbR ?_
      refine thenR ?_
      refine ⟨⟨_,rfl⟩,?_⟩
      refine inbR ?_
      refine thenR ?_
      replace h := Option.some.inj h; subst h
      exact fin_r (by kernel_rfl) rfl
     ·refine run_cF 48 (c47 40) (c47 43) (decide (r7 ≠ 0)) hc8 (by kernel_rfl) (by kernel_rfl) ?_
      refine run_k (by kernel_rfl) ?_
      refine inbN ?_
      refine thenN ?_
      refine run0z [] [0,1,2,11] [v_1,v_0,.i a2,.i (wr (l1_11 + 1))] ⟨[],0⟩ _ (by kernel_rfl) cj0 ?_
      replace hl1 := Option.some.inj hl1; subst hl1
      exact ⟨_,rfl,pi [],mkInto (ks := [0,1,2,11]) (ys := [v_1,v_0,.i a2,.i (wr (l1_11 + 1))]) (by kernel_rfl) (by kernel_rfl) (.k (.c (cleanMap _ _ (cl_SL cl_GTone))) (.k (.c (cleanMap _ _ cl_GInstrument)) (.k (.c rfl) (.k (.c rfl) .z)))) .z⟩
    ·refine run_cF 39 (c47 31) (c47 32) (decide (l1_11 < (a1.length : Int))) hc5 (by kernel_rfl) (by kernel_rfl) ?_
     replace hl1 := Option.some.inj hl1; subst hl1
     have hr := rl1 _ rfl
     subst hr
     refine awp_p [0,1,2] [] (zipE [0,1,2] [v_1,v_0,.i a2]) ⟨[],0⟩ (by kernel_rfl) (?_)
     refine run_e 0 (by kernel_rfl) ?_
     refine thenE ?_
     refine ⟨⟨_,rfl⟩,?_⟩
     refine inbE ?_
     exact kl1 () rfl
   ·rintro ⟨⟩ rfl
    replace h := elimL h
    refine thenN ?_
    refine run_s (c47 46) (c47 53) (by kernel_rfl) ?_
    obtain ⟨j2_55,hj2,h⟩ := bindE h
    refine run_gq (c47 48) (fun (j2_55 : Bool) => (zipE [0,1,2,55] [v_1,v_0,.i a2,.bool j2_55])) (fun (j2_55 : Bool) => ⟨[],0⟩) (fun j => j2_55 = j) (fun kj2 => ?_) ?_
    ·rcases iteE hj2 with ⟨hc9,hj2⟩ | ⟨hc9,hj2⟩
     ·replace hj2 := Option.some.inj hj2; subst hj2
      exact run1z (c47 48) [{},{},{},{ g := false },{ g := false },{ k := 1,b := true }] [0,1,2,55] [v_1,v_0,.i a2,.bool true] ⟨[],0⟩ _ (by kernel_rfl) (cjC (hc9) (cjC (hc9) (cj1 (hc9)))) (kj2 true rfl)
     ·replace hj2 := Option.some.inj hj2; subst hj2
      exact run1z (c47 48) [{},{},{},{},{},{ k := 1,b := false }] [0,1,2,55] [v_1,v_0,.i a2,.bool (decide (6 < a2))] ⟨[],0⟩ _ (by kernel_rfl) (cjC (hc9) (cjC (hc9) (cj1 (hc9)))) (kj2 (decide (6 < a2)) rfl)
    ·rintro _ rfl
     rcases iteE h with ⟨hc10,h⟩ | ⟨hc10,h⟩
     ·refine run_cT 55 (c47 49) (c47 52) j2_55 hc10 (by kernel_rfl) (by kernel_rfl) ?_
      refine run1z (c47 51) [] [6,7,8] [.sl true [],.i 0,.i 1] ⟨[],0⟩ _ (by kernel_rfl) cj0 ?_
      refine run_i 0 [] [6,7,8] [.sl true [],.i 0,.i 1] (xs := [.sl false (([] : List Int).map AV.i),.i 0,.i 1]) (S2 := ⟨[],0⟩) ?_ (by intro i e; cases e <;> exact Nat.le_of_ble_eq_true rfl) (by kernel_rfl) (by kernel_rfl) (by kernel_rfl) (.k (.s (cleanMap (([] : List Int)) _ cl_i)) (.k (.c rfl) (.k (.c rfl) .z))) .z
      refine run_t (by kernel_rfl) ?_
      refine thenR ?_
      replace h := Option.some.inj h; subst h
      exact fin_r (by kernel_rfl) rfl
     ·refine run_cF 55 (c47 49) (c47 52) j2_55 hc10 (by kernel_rfl) (by kernel_rfl) ?_
      refine run_k (by kernel_rfl) ?_
      refine thenN ?_
      refine run_s (c47 54) (c47 61) (by kernel_rfl) ?_
      refine run1z (c47 56) [{},{ k := 1,n := a0.length },{},{},{ k := 1,n := a1.length }] [0,1,2,62] [v_1,v_0,.i a2,.bool (decide ((wr (a2 * (a1.length : Int))) < (a0.length : Int)))] ⟨[],0⟩ _ (by kernel_rfl) (cjC (mapLen a0 (SL E_GTone)) (cj1 (mapLen a1 E_GInstrument))) ?_
      rcases iteE h with ⟨hc11,h⟩ | ⟨hc11,h⟩
      ·refine run_cT 62 (c47 57) (c47 60) (decide ((wr (a2 * (a1.length : Int))) < (a0.length : Int))) hc11 (by kernel_rfl) (by kernel_rfl) ?_
       refine run1z (c47 59) [] [6,7,8] [.sl true [],.i 0,.i 90] ⟨[],0⟩ _ (by kernel_rfl) cj0 ?_
       refine run_i 0 [] [6,7,8] [.sl true [],.i 0,.i 90] (xs := [.sl false (([] : List Int).map AV.i),.i 0,.i 90]) (S2 := ⟨[],0⟩) ?_ (by intro i e; cases e <;> exact Nat.le_of_ble_eq_true rfl) (by kernel_rfl) (by kernel_rfl) (by kernel_rfl) (.k (.s (cleanMap (([] : List Int)) _ cl_i)) (.k (.c rfl) (.k (.c rfl) .z))) .z
       refine run_t (by kernel_rfl) ?_
       refine thenR ?_
       replace h := Option.some.inj h; subst h
       exact fin_r (by kernel_rfl) rfl
      ·refine run_cF 62 (c47 57) (c47 60) (decide ((wr (a2 * (a1.length : Int))) < (a0.length : Int))) hc11 (by kernel_rfl) (by kernel_rfl) ?_
       refine run_k (by kernel_rfl) ?_
       refine thenN ?_
       refine run1z (c47 63) [] [0,1,2,13] [v_1,v_0,.i a2,.sl true []] ⟨[],0⟩ _ (by kernel_rfl) cj0 ?_
       refine run_s (c47 64) (c47 97) (by kernel_rfl) ?_
       refine run1z (c47 66) [] [0,1,2,13,14] [v_1,v_0,.i a2,.sl true [],.i 0] ⟨[],0⟩ _ (by kernel_rfl) cj0 ?_
       obtain ⟨l3x_13,hll3x,h⟩ := bindE h
       refine run_tq (fun (l3x_13 : (List (List Int))) => (zipE [0,1,2,13] [v_1,v_0,.i a2,.ms 0 0 l3x_13.length])) (fun (l3x_13 : (List (List Int))) => ⟨[(0,.cells 1 (l3x_13.map (SL AV.i)))],1⟩) (fun j => l3x_13 = j) (fun kl3 => ?_) ?_
       ·refine run_b 2 (c47 67) (by kernel_rfl) ?_
        refine run_l (c47 68) _ hll3x (fun ((l3_13,l3_14) : (List (List Int) × Int)) => (zipE [0,1,2,13,14] [v_1,v_0,.i a2,.ms 0 0 l3_13.length,.i l3_14])) (fun ((l3_13,l3_14) : (List (List Int) × Int)) => ⟨[(0,.cells 1 (l3_13.map (SL AV.i)))],1⟩) [(0,1000000)] (by intro i e; cases e <;> exact Nat.le_of_ble_eq_true rfl) (by kernel_rfl) (mkInto (ks := [0,1,2,13,14]) (ys := [v_1,v_0,.i a2,.sl true [],.i 0]) (by kernel_rfl) (by kernel_rfl) (.k (.c (cleanMap _ _ (cl_SL cl_GTone))) (.k (.c (cleanMap _ _ cl_GInstrument)) (.k (.c rfl) (.k (.n) (.k (.c rfl) .z))))) (.n rfl rfl rfl .z)) ?_
        rintro ⟨l3_13,l3_14⟩ out hl3 rl3
        refine run_s (c47 69) (c47 74) (by kernel_rfl) ?_
        let v_2 : AV := .ms 0 0 l3_13.length
        let b_0 : Blk := .cells 1 (l3_13.map (SL AV.i))
        refine run1z (c47 71) [{},{},{ k := 1,n := a0.length }] [0,1,2,13,14,66] [v_1,v_0,.i a2,v_2,.i l3_14,.bool (decide (l3_14 < (a0.length : Int)))] ⟨[(0,b_0)],1⟩ _ (by kernel_rfl) (cj1 (mapLen a0 (SL E_GTone))) ?_
        rcases iteE hl3 with ⟨hc12,hl3⟩ | ⟨hc12,hl3⟩
        ·refine run_cT 66 (c47 72) (c47 73) (decide (l3_14 < (a0.length : Int))) hc12 (by kernel_rfl) (by kernel_rfl) ?_
         refine run_k (by kernel_rfl) ?_
         refine thenN ?_
         refine run_s (c47 75) (c47 96) (by kernel_rfl) ?_
         refine run_b 3 (c47 76) (by kernel_rfl) ?_
         refine run1z (c47 78) [] [0,1,2,13,14,15] [v_1,v_0,.i a2,v_2,.i l3_14,.sl true []] ⟨[(0,b_0)],1⟩ _ (by kernel_rfl) cj0 ?_
         refine run_s (c47 79) (c47 95) (by kernel_rfl) ?_
         refine run1z (c47 81) [] [0,1,2,13,14,15,16] [v_1,v_0,.i a2,v_2,.i l3_14,.sl true [],.i 0] ⟨[(0,b_0)],1⟩ _ (by kernel_rfl) cj0 ?_
         obtain ⟨l4x_15,hll4x,hl3⟩ := bindE hl3
         refine run_tq (fun (l4x_15 : (List Int)) => (zipE [0,1,2,13,14,15] [v_1,v_0,.i a2,v_2,.i l3_14,.ms 1 0 l4x_15.length])) (fun (l4x_15 : (List Int)) => ⟨[(1,.cells 1 (l4x_15.map AV.i)),(0,b_0)],2⟩) (fun j => l4x_15 = j) (fun kl4 => ?_) ?_
         ·refine run_b 4 (c47 82) (by kernel_rfl) ?_
          refine run_l (c47 83) _ hll4x (fun ((l4_15,l4_16) : (List Int × Int)) => (zipE [0,1,2,13,14,15,16] [v_1,v_0,.i a2,v_2,.i l3_14,.ms 1 0 l4_15.length,.i l4_16])) (fun ((l4_15,l4_16) : (List Int × Int)) => ⟨[(1,.cells 1 (l4_15.map AV.i)),(0,b_0)],2⟩) [(1,1000000)] (by intro i e; cases e <;> exact Nat.le_of_ble_eq_true rfl) (by kernel_rfl) (mkInto (ks := [0,1,2,13,14,15,16]) (ys := [v_1,v_0,.i a2,v_2,.i l3_14,.sl true [],.i 0]) (by kernel_rfl) (by kernel_rfl) (.k (.c (cleanMap _ _ (cl_SL cl_GTone))) (.k (.c (cleanMap _ _ cl_GInstrument)) (.k (.c rfl) (.k (.ms rfl rfl) (.k (.c rfl) (.k (.n) (.k (.c rfl) .z))))))) (.n rfl rfl rfl (.k rfl (.cells (.r (cleanMap _ _ (cl_SL cl_i)))) .z))) ?_
          rintro ⟨l4_15,l4_16⟩ out hl4 rl4
          refine run_s (c47 84) (c47 89) (by kernel_rfl) ?_
          let b_1 : Blk := .cells 1 (l4_15.map AV.i)
          let s_0 : St := ⟨[(1,b_1),(0,b_0)],2⟩
          refine run1z (c47 86) [{},{},{ k := 1,n := a1.length }] [0,1,2,13,14,15,16,72] [v_1,v_0,.i a2,v_2,.i l3_14,.ms 1 0 l4_15.length,.i l4_16,.bool (decide (l4_16 < (a1.length : Int)))] s_0 _ (by kernel_rfl) (cj1 (mapLen a1 E_GInstrument)) ?_
          rcases iteE hl4 with ⟨hc13,hl4⟩ | ⟨hc13,hl4⟩
          ·refine run_cT 72 (c47 87) (c47 88) (decide (l4_16 < (a1.length : Int))) hc13 (by kernel_rfl) (by kernel_rfl) ?_
           refine run_k (by kernel_rfl) ?_
           refine thenN ?_
           refine run_s (c47 90) (c47 94) (by kernel_rfl) ?_
           refine run_b 5 (c47 91) (by kernel_rfl) ?_
           obtain ⟨hn14,hl4⟩ := needE hl4
           obtain ⟨hn15,hl4⟩ := needE hl4
           obtain ⟨hn16,hl4⟩ := needE hl4
           obtain ⟨hn17,hl4⟩ := needE hl4
           obtain ⟨y18,hy18,hl4⟩ := bindE hl4
           obtain ⟨r19,hr19,hl4⟩ := bindE hl4
           refine yun1z (c47 93) [[],[],[],[2],[0,1,2,3],[],[],[5,6],[5,6,7],[0,1,2,3,4,5,6,7,8],[0,1,2,3,4,5,6,7,8,9],[0,1,2,3,4,5,6,7,8,9,10],[0,1,2,3,4,5,6,7,8,9,10],[0,1,2,3,4,5,6,7,8,9,10,11],[0,1,2,3,4,5,6,7,8,9,10,11,12,13]] [.light 0 false,.light 1 false,.light 2 false,.light 3 false,.light 4 false,.light 5 false,.light 6 false,.light 7 false,.light 8 false,.heavy 9 [],.light 10 false,.light 11 false,.light 12 false,.light 13 false,.light 14 false] [{},{},{},{},{ k := 1,n := l3_14.toNat,m := (wr (l3_14 + 1)).toNat,b := false,l := ((a0.take (wr (l3_14 + 1)).toNat).drop l3_14.toNat).map (SL E_GTone) },{},{},{ k := 1,x := E_GInstrument y18 },{},{ c := some (.tup [.i r19.1,.i r19.2],s_0) }] [0,1,2,13,14,15,16,17] [v_1,v_0,.i a2,v_2,.i l3_14,.ms 1 0 l4_15.length,.i l4_16,.i r19.1] s_0 _ (by kernel_rfl) (cjC (hn16) (cjC (leMap (SL E_GTone) hn17) (cjC (fitsMap (P := Tryz.prog) (t := 63) (k := 1) a0 (SL E_GTone) (by kernel_rfl) sz_SL) (cjC (Eq.refl false) (cjC (mapSub a0 (SL E_GTone) l3_14.toNat (wr (l3_14 + 1)).toNat) (cjC (hn14) (cjC (Eq.refl (l3_14.toNat)) (cjC (hn15) (cjC (Eq.refl ((wr (l3_14 + 1)).toNat)) (cjC ((ixE hy18).1) (cjC (mapGet E_GInstrument (ixE hy18).2) (cj1 (f109_ok ((a0.take (wr (l3_14 + 1)).toNat).drop l3_14.toNat) y18 0 _ hr19 s_0))))))))))))) ?_
           obtain ⟨hn20,hl4⟩ := needE hl4
           let s_1 : St := ⟨[(2,.cells 1 ((l4_15 ++ [r19.1]).map AV.i)),(0,b_0)],3⟩
           refine run0z [{},{},{},{ k := 1,n := (l4_15 ++ [r19.1]).length,l := (l4_15 ++ [r19.1]).map AV.i }] [0,1,2,13,14,15,16] [v_1,v_0,.i a2,v_2,.i l3_14,.ms 2 0 (l4_15 ++ [r19.1]).length,.i l4_16] s_1 _ (by kernel_rfl) (cjC (@List.cons_ne_nil AV (.i r19.1) []) (cjC (mLe l4_15 AV.i) (cjC (hn20) (cjC (lenA l4_15 ([r19.1] : List Int)) (cjC (appA l4_15 ([r19.1] : List Int) AV.i) (cj1 (fitsOne (P := Tryz.prog) (t := 3) (x := .i r19.1) (r := []) (by kernel_rfl)))))))) ?_
           refine inbN ?_
           refine thenN ?_
           refine run0z [] [0,1,2,13,14,15,16] [v_1,v_0,.i a2,v_2,.i l3_14,.ms 2 0 (l4_15 ++ [r19.1]).length,.i (wr (l4_16 + 1))] s_1 _ (by kernel_rfl) cj0 ?_
           replace hl4 := Option.some.inj hl4; subst hl4
           exact ⟨_,rfl,pi [(1,2)],mkInto (ks := [0,1,2,13,14,15,16]) (ys := [v_1,v_0,.i a2,v_2,.i l3_14,.ms 2 0 (l4_15 ++ [r19.1]).length,.i (wr (l4_16 + 1))]) (by kernel_rfl) (by kernel_rfl) (.k (.c (cleanMap _ _ (cl_SL cl_GTone))) (.k (.c (cleanMap _ _ cl_GInstrument)) (.k (.c rfl) (.k (.ms rfl rfl) (.k (.c rfl) (.k (.ms rfl rfl) (.k (.c rfl) .z))))))) (.k rfl (.cells (.r (cleanMap _ _ cl_i))) (.k rfl (.cells (.r (cleanMap _ _ (cl_SL cl_i)))) .z))⟩
          ·refine run_cF 72 (c47 87) (c47 88) (decide (l4_16 < (a1.length : Int))) hc13 (by kernel_rfl) (by kernel_rfl) ?_
           replace hl4 := Option.some.inj hl4; subst hl4
           have hr := rl4 _ rfl
           subst hr
           refine awp_p [0,1,2,13,14,15] [1,0] (zipE [0,1,2,13,14,15] [v_1,v_0,.i a2,v_2,.i l3_14,.ms 1 0 l4_15.length]) s_0 (by kernel_rfl) (?_)
           refine run_e 4 (by kernel_rfl) ?_
           refine thenE ?_
           refine ⟨⟨_,rfl⟩,?_⟩
           refine inbE ?_
           exact kl4 l4_15 rfl
         ·rintro _ rfl
          refine thenN ?_
          let v_3 : AV := .sl false (l4x_15.map AV.i)
          refine run_z 1 1 (l4x_15.map AV.i) [0,1,2,13,14,15] [v_1,v_0,.i a2,v_2,.i l3_14,.ms 1 0 l4x_15.length] (xs := [v_1,v_0,.i a2,v_2,.i l3_14,v_3]) (S2 := ⟨[(0,b_0)],2⟩) ?_ (by kernel_rfl) (by kernel_rfl) (.k (.r _) (.k (.r _) (.k (.r _) (.k (.r _) (.k (.r _) (.k (.m (mLe l4x_15 AV.i) (mapAll l4x_15 AV.i)) .z)))))) (.k (x' := b_0) rfl (by kernel_rfl) (.r _) .z) rfl rfl
          obtain ⟨hn21,hl3⟩ := needE hl3
          let b_2 : Blk := .cells 1 ((l3_13 ++ [l4x_15]).map (SL AV.i))
          refine run0z [{},{},{},{ k := 1,n := (l3_13 ++ [l4x_15]).length,l := (l3_13 ++ [l4x_15]).map (SL AV.i) }] [0,1,2,13,14] [v_1,v_0,.i a2,.ms 2 0 (l3_13 ++ [l4x_15]).length,.i l3_14] ⟨[(2,b_2)],3⟩ _ (by kernel_rfl) (cjC (@List.cons_ne_nil AV (v_3) []) (cjC (mLe l3_13 (SL AV.i)) (cjC (hn21) (cjC (lenA l3_13 ([l4x_15] : List (List Int))) (cjC (appA l3_13 ([l4x_15] : List (List Int)) (SL AV.i)) (cj1 (fitsOne (P := Tryz.prog) (t := 69) (x := v_3) (r := []) (by kernel_rfl)))))))) ?_
          refine inbN ?_
          refine thenN ?_
          refine run0z [] [0,1,2,13,14] [v_1,v_0,.i a2,.ms 2 0 (l3_13 ++ [l4x_15]).length,.i (wr (l3_14 + 1))] ⟨[(2,b_2)],3⟩ _ (by kernel_rfl) cj0 ?_
          replace hl3 := Option.some.inj hl3; subst hl3
          exact ⟨_,rfl,pi [(0,2)],mkInto (ks := [0,1,2,13,14]) (ys := [v_1,v_0,.i a2,.ms 2 0 (l3_13 ++ [l4x_15]).length,.i (wr (l3_14 + 1))]) (by kernel_rfl) (by kernel_rfl) (.k (.c (cleanMap _ _ (cl_SL cl_GTone))) (.k (.c (cleanMap _ _ cl_GInstrument)) (.k (.c rfl) (.k (.ms rfl rfl) (.k (.c rfl) .z))))) (.k rfl (.cells (.r (cleanMap _ _ (cl_SL cl_i)))) .z)⟩
        ·refine run_cF 66 (c47 72) (c47 73) (decide (l3_14 < (a0.length : Int))) hc12 (by kernel_rfl) (by kernel_rfl) ?_
         replace hl3 := Option.some.inj hl3; subst hl3
         have hr := rl3 _ rfl
         subst hr
         refine awp_p [0,1,2,13] [0] (zipE [0,1,2,13] [v_1,v_0,.i a2,v_2]) ⟨[(0,b_0)],1⟩ (by kernel_rfl) (?_)
         refine run_e 2 (by kernel_rfl) ?_
         refine thenE ?_
         refine ⟨⟨_,rfl⟩,?_⟩
         refine inbE ?_
         exact kl3 l3_13 rfl
       ·rintro _ rfl
        refine thenN ?_
        let v_4 : AV := .ms 0 0 l3x_13.length
        let b_3 : Blk := .cells 1 (l3x_13.map (SL AV.i))
        refine run1z (c47 99) [] [0,1,2,13,19] [v_1,v_0,.i a2,v_4,.sl true []] ⟨[(0,b_3)],1⟩ _ (by kernel_rfl) cj0 ?_
        refine run1z (c47 101) [] [0,1,2,13,19,20] [v_1,v_0,.i a2,v_4,.sl true [],.i (-1)] ⟨[(0,b_3)],1⟩ _ (by kernel_rfl) cj0 ?_
        obtain ⟨hn22,h⟩ := needE h
        obtain ⟨hn23,h⟩ := needE h
        let b_4 : Blk := .cells 1 ((List.replicate (a0.length : Int).toNat (0 : Int)).map AV.i)
        let s_2 : St := ⟨[(1,b_4),(0,b_3)],2⟩
        refine run1z (c47 103) [{},{ k := 1,n := a0.length },{ k := 1,n := (a0.length : Int).toNat,l := (List.replicate (a0.length : Int).toNat (0 : Int)).map AV.i }] [1,2,13,19,20,21] [v_0,.i a2,v_4,.sl true [],.i (-1),.ms 1 0 (a0.length : Int).toNat] s_2 _ (by kernel_rfl) (cjC (mapLen a0 (SL E_GTone)) (cjC (hn22) (cjC (Int.le_refl (a0.length : Int)) (cjC (hn23) (cjC (Eq.refl ((a0.length : Int).toNat)) (cj1 (mapRep (a0.length : Int).toNat AV.i (0 : Int)))))))) ?_
        refine run_i 2 [] [1,2,13,19,20,21] [v_0,.i a2,v_4,.sl true [],.i (-1),.ms 1 0 (a0.length : Int).toNat] (xs := [v_0,.i a2,v_4,.sl true [],.i (-1),.ms 1 0 (List.replicate (a0.length : Int).toNat (0 : Int)).length]) (S2 := s_2) ?_ (by intro i e; cases e <;> exact Nat.le_of_ble_eq_true rfl) (by kernel_rfl) (by kernel_rfl) (by kernel_rfl) (.k (.c (cleanMap _ _ cl_GInstrument)) (.k (.c rfl) (.k (.ms rfl rfl) (.k (.c rfl) (.k (.c rfl) (.k (.e rfl rfl (by simp)) .z)))))) (.k rfl (.cells (.r (cleanMap _ _ cl_i))) (.k rfl (.cells (.r (cleanMap _ _ (cl_SL cl_i)))) .z))
        obtain ⟨ol5x,hll5x,h⟩ := bindE h
        refine run_tq (fun (_ : Unit) => (zipE [1,2,13,19,20,21] [v_0,.i a2,v_4,.sl true [],.i (-1),.ms 1 0 (List.replicate (a0.length : Int).toNat (0 : Int)).length])) (fun (_ : Unit) => s_2) (fun j => ol5x = .inl j) (fun kl5 => ?_) ?_
        ·refine run_b 6 (c47 104) (by kernel_rfl) ?_
         refine run_l (c47 105) _ hll5x (fun ((l5_19,l5_20,l5_21) : (List Int × Int × List Int)) => (zipE [1,2,13,19,20,21] [v_0,.i a2,v_4,.ms 2 0 l5_19.length,.i l5_20,.ms 1 0 l5_21.length])) (fun ((l5_19,l5_20,l5_21) : (List Int × Int × List Int)) => ⟨[(2,.cells 1 (l5_19.map AV.i)),(1,.cells 1 (l5_21.map AV.i)),(0,b_3)],3⟩) [(2,1000000)] (by intro i e; cases e <;> exact Nat.le_of_ble_eq_true rfl) (by kernel_rfl) (mkInto (ks := [1,2,13,19,20,21]) (ys := [v_0,.i a2,v_4,.sl true [],.i (-1),.ms 1 0 (List.replicate (a0.length : Int).toNat (0 : Int)).length]) (by kernel_rfl) (by kernel_rfl) (.k (.c (cleanMap _ _ cl_GInstrument)) (.k (.c rfl) (.k (.ms rfl rfl) (.k (.n) (.k (.c rfl) (.k (.ms rfl rfl) .z)))))) (.n rfl rfl rfl (.k rfl (.cells (.r (cleanMap _ _ cl_i))) (.k rfl (.cells (.r (cleanMap _ _ (cl_SL cl_i)))) .z)))) ?_
         rintro ⟨l5_19,l5_20,l5_21⟩ out hl5 rl5
         refine run_b 7 (c47 106) (by kernel_rfl) ?_
         obtain ⟨oj6,hj6,hl5⟩ := bindE hl5
         let v_5 : AV := .ms 1 0 l5_21.length
         let b_5 : Blk := .cells 1 (l5_21.map AV.i)
         refine run_jq (c47 107) (c47 114) (fun ((j6_19,j6_20) : (List Int × Int)) => (zipE [1,2,13,19,20,21] [v_0,.i a2,v_4,.ms 6 0 j6_19.length,.i j6_20,v_5])) (fun ((j6_19,j6_20) : (List Int × Int)) => ⟨[(6,.cells 1 (j6_19.map AV.i)),(1,b_5),(0,b_3)],7⟩) (fun j => oj6 = j) (by kernel_rfl) (fun kj6 => ?_) ?_
         ·obtain ⟨r24,hr24,hj6⟩ := bindE hj6
          let v_6 : AV := .ms 2 0 l5_19.length
          let b_6 : Blk := .cells 1 (l5_19.map AV.i)
          let s_3 : St := ⟨[(2,b_6),(1,b_5),(0,b_3)],4⟩
          refine run1z (c47 109) [{},{},{},{ k := 1,n := a1.length },{},{ c := some (.tup [.i r24.1,.bool r24.2],s_3) }] [1,2,13,19,20,21,22,23] [v_0,.i a2,v_4,v_6,.i l5_20,v_5,.i r24.1,.bool r24.2] s_3 _ (by kernel_rfl) (cjC (mapLen a1 E_GInstrument) (cj1 (callF (f110_ok l3x_13 l5_21 (a1.length : Int) a2 _ hr24) [(0,0),(1,1)] [(1,1),(0,0)] [2] [v_4,v_5,.i (a1.length : Int),.i a2] ⟨[(2,b_6),(1,b_5),(0,b_3)],3⟩ (.tup [.i r24.1,.bool r24.2]) s_3 (by kernel_rfl) (.k (.ms rfl rfl) (.k (.ms rfl rfl) (.k (.c rfl) (.k (.c rfl) .z)))) (.t (.k (.c rfl) (.k (.c rfl) .z))) (.k rfl (.cells (.r (cleanMap _ _ cl_i))) (.k rfl (.cells (.r (cleanMap _ _ (cl_SL cl_i)))) .z)) (.f rfl (by kernel_rfl) (.d (x' := b_5) rfl (by kernel_rfl) (.cells (.r (cleanMap _ _ cl_i))) (.d (x' := b_3) rfl (by kernel_rfl) (.cells (.r (cleanMap _ _ (cl_SL cl_i)))) .z)))))) ?_
          obtain ⟨j7_117,hj7,hj6⟩ := bindE hj6
          refine run_gq (c47 111) (fun (j7_117 : Bool) => (zipE [1,2,13,19,20,21,22,117] [v_0,.i a2,v_4,v_6,.i l5_20,v_5,.i r24.1,.bool j7_117])) (fun (j7_117 : Bool) => s_3) (fun j => j7_117 = j) (fun kj7 => ?_) ?_
          ·rcases iteE hj7 with ⟨hc25,hj7⟩ | ⟨hc25,hj7⟩
           ·rcases iteE hj7 with ⟨hc26,hj7⟩ | ⟨hc26,hj7⟩
            ·replace hj7 := Option.some.inj hj7; subst hj7
             exact run1z (c47 111) [{},{},{},{},{},{ g := false },{ g := false },{ g := false },{ k := 1,b := true },{ k := 1,b := true }] [1,2,13,19,20,21,22,117] [v_0,.i a2,v_4,v_6,.i l5_20,v_5,.i r24.1,.bool true] s_3 _ (by kernel_rfl) (cjC (hc25) (cjC (hc25) (cjC (hc25) (cjC (hc26) (cjC (hc26) (cjC (hc26) (cjC (hc25) (cjC (hc26) (cj1 (hc25)))))))))) (kj7 true rfl)
            ·replace hj7 := Option.some.inj hj7; subst hj7
             exact run1z (c47 111) [{},{},{},{},{},{},{},{},{ k := 1,b := false },{ k := 1,b := true }] [1,2,13,19,20,21,22,117] [v_0,.i a2,v_4,v_6,.i l5_20,v_5,.i r24.1,.bool (decide (r24.1 < l5_20))] s_3 _ (by kernel_rfl) (cjC (hc25) (cjC (hc25) (cjC (hc25) (cjC (hc26) (cjC (hc26) (cjC (hc26) (cjC (hc25) (cjC (hc26) (cj1 (hc25)))))))))) (kj7 (decide (r24.1 < l5_20)) rfl)
           ·replace hj7 := Option.some.inj hj7; subst hj7
            exact run1z (c47 111) [{},{},{ g := false },{ g := false },{ g := false },{},{},{},{ g := false },{ k := 1,b := false }] [1,2,13,19,20,21,22,117] [v_0,.i a2,v_4,v_6,.i l5_20,v_5,.i r24.1,.bool false] s_3 _ (by kernel_rfl) (cjC (hc25) (cjC (hc25) (cjC (hc25) (cjC (hc25) (cj1 (hc25)))))) (kj7 false rfl)
          ·rintro _ rfl
           rcases iteE hj6 with ⟨hc27,hj6⟩ | ⟨hc27,hj6⟩
           ·refine run_cT 117 (c47 112) (c47 113) j7_117 hc27 (by kernel_rfl) (by kernel_rfl) ?_
            obtain ⟨j8_19,hj8,hj6⟩ := bindE hj6
            refine run_tq (fun (j8_19 : (List Int)) => (zipE [1,2,13,19,20,21] [v_0,.i a2,v_4,.ms 5 0 j8_19.length,.i r24.1,v_5])) (fun (j8_19 : (List Int)) => ⟨[(5,.cells 1 (j8_19.map AV.i)),(1,b_5),(0,b_3)],6⟩) (fun j => j8_19 = j) (fun kj8 => ?_) ?_
            ·rcases iteE hj8 with ⟨hc28,hj8⟩ | ⟨hc28,hj8⟩
             ·replace hj8 := Option.some.inj hj8; subst hj8
              refine awp_post (by intro i e; cases e <;> exact Nat.le_of_ble_eq_true rfl) ?_
              exact run0z [{},{ k := 2 }] [1,2,13,19,20,21] [v_0,.i a2,v_4,.sl true [],.i r24.1,v_5] ⟨[(1,b_5),(0,b_3)],4⟩ _ (by kernel_rfl) (cjC (mapNilM AV.i (of_decide_eq_true hc28)) (cj1 (mLe l5_21 AV.i))) ⟨5,pi [(5,1000000)],_,_,Nat.le_of_ble_eq_true rfl,mkInto (ks := [1,2,13,19,20,21]) (ys := [v_0,.i a2,v_4,.sl true [],.i r24.1,v_5]) (by kernel_rfl) (by kernel_rfl) (.k (.c (cleanMap _ _ cl_GInstrument)) (.k (.c rfl) (.k (.ms rfl rfl) (.k (.n) (.k (.c rfl) (.k (.ms rfl rfl) .z)))))) (.n rfl rfl rfl (.k rfl (.cells (.r (cleanMap _ _ cl_i))) (.k rfl (.cells (.r (cleanMap _ _ (cl_SL cl_i)))) .z))),kj8 ([] : List Int) rfl⟩
             ·obtain ⟨hn29,hj8⟩ := needE hj8
              replace hj8 := Option.some.inj hj8; subst hj8
              refine awp_post (by intro i e; cases e <;> exact Nat.le_of_ble_eq_true rfl) ?_
              exact run0z [{},{ k := 1,n := l5_21.length,l := l5_21.map AV.i }] [1,2,13,19,20,21] [v_0,.i a2,v_4,.ms 4 0 l5_21.length,.i r24.1,v_5] ⟨[(4,b_5),(1,b_5),(0,b_3)],5⟩ _ (by kernel_rfl) (cjC (mapNeM AV.i (of_decide_eq_false hc28)) (cjC (Eq.refl true) (cjC (bnd0M AV.i hn29) (cjC (fitsNil (P := Tryz.prog) (t := 3)) (cjC (len0M l5_21 AV.i) (cjC (app0M l5_21 AV.i) (cj1 (mLe l5_21 AV.i)))))))) ⟨5,pi [(5,4)],_,_,Nat.le_of_ble_eq_true rfl,mkInto (ks := [1,2,13,19,20,21]) (ys := [v_0,.i a2,v_4,.ms 4 0 l5_21.length,.i r24.1,v_5]) (by kernel_rfl) (by kernel_rfl) (.k (.c (cleanMap _ _ cl_GInstrument)) (.k (.c rfl) (.k (.ms rfl rfl) (.k (.ms rfl rfl) (.k (.c rfl) (.k (.ms rfl rfl) .z)))))) (.k rfl (.cells (.r (cleanMap _ _ cl_i))) (.k rfl (.cells (.r (cleanMap _ _ cl_i))) (.k rfl (.cells (.r (cleanMap _ _ (cl_SL cl_i)))) .z))),kj8 l5_21 rfl⟩
            ·rintro _ rfl
             replace hj6 := Option.some.inj hj6; subst hj6
             refine thenN ?_
             exact run_i 6 [(6,5)] [1,2,13,19,20,21] [v_0,.i a2,v_4,.ms 5 0 j8_19.length,.i r24.1,v_5] (kj6 (j8_19,r24.1) rfl) (by intro i e; cases e <;> exact Nat.le_of_ble_eq_true rfl) (by kernel_rfl) (by kernel_rfl) (by kernel_rfl) (.k (.c (cleanMap _ _ cl_GInstrument)) (.k (.c rfl) (.k (.ms rfl rfl) (.k (.ms rfl rfl) (.k (.c rfl) (.k (.ms rfl rfl) .z)))))) (.k rfl (.cells (.r (cleanMap _ _ cl_i))) (.k rfl (.cells (.r (cleanMap _ _ cl_i))) (.k rfl (.cells (.r (cleanMap _ _ (cl_SL cl_i)))) .z)))
           ·refine run_cF 117 (c47 112) (c47 113) j7_117 hc27 (by kernel_rfl) (by kernel_rfl) ?_
            replace hj6 := Option.some.inj hj6; subst hj6
            refine run_i 6 [(6,2)] [1,2,13,19,20,21] [v_0,.i a2,v_4,v_6,.i l5_20,v_5] (xs := [v_0,.i a2,v_4,.ms 6 0 l5_19.length,.i l5_20,v_5]) (S2 := ⟨[(6,b_6),(1,b_5),(0,b_3)],7⟩) ?_ (by intro i e; cases e <;> exact Nat.le_of_ble_eq_true rfl) (by kernel_rfl) (by kernel_rfl) (by kernel_rfl) (.k (.c (cleanMap _ _ cl_GInstrument)) (.k (.c rfl) (.k (.ms rfl rfl) (.k (.ms rfl rfl) (.k (.c rfl) (.k (.ms rfl rfl) .z)))))) (.k rfl (.cells (.r (cleanMap _ _ cl_i))) (.k rfl (.cells (.r (cleanMap _ _ cl_i))) (.k rfl (.cells (.r (cleanMap _ _ (cl_SL cl_i)))) .z)))
            refine run_k (by kernel_rfl) ?_
            refine thenN ?_
            exact kj6 (l5_19,l5_20) rfl
         ·rintro ⟨j6_19,j6_20⟩ rfl
          let v_7 : AV := .ms 6 0 j6_19.length
          let b_7 : Blk := .cells 1 (j6_19.map AV.i)
          refine run1z (c47 116) [] [1,2,13,19,20,21,24] [v_0,.i a2,v_4,v_7,.i j6_20,v_5,.i (wr ((l5_21.length : Int) - 1))] ⟨[(6,b_7),(1,b_5),(0,b_3)],7⟩ _ (by kernel_rfl) cj0 ?_
          obtain ⟨ol9x,hll9x,hl5⟩ := bindE hl5
          refine run_jq (c47 117) (c47 129) (fun ((l9x_21,l9x_24) : (List Int × Int)) => (zipE [1,2,13,19,20,21,24] [v_0,.i a2,v_4,v_7,.i j6_20,.ms 1 0 l9x_21.length,.i l9x_24])) (fun ((l9x_21,l9x_24) : (List Int × Int)) => ⟨[(6,b_7),(1,.cells 1 (l9x_21.map AV.i)),(0,b_3)],7⟩) (fun j => ol9x = j) (by kernel_rfl) (fun kl9 => ?_) ?_
          ·refine run_b 8 (c47 118) (by kernel_rfl) ?_
           refine run_l (c47 119) _ hll9x (fun ((l9_21,l9_24) : (List Int × Int)) => (zipE [1,2,13,19,20,21,24] [v_0,.i a2,v_4,v_7,.i j6_20,.ms 1 0 l9_21.length,.i l9_24])) (fun ((l9_21,l9_24) : (List Int × Int)) => ⟨[(6,b_7),(1,.cells 1 (l9_21.map AV.i)),(0,b_3)],7⟩) [] (by intro i e; cases e <;> exact Nat.le_of_ble_eq_true rfl) (by kernel_rfl) (mkInto (ks := [1,2,13,19,20,21,24]) (ys := [v_0,.i a2,v_4,v_7,.i j6_20,v_5,.i (wr ((l5_21.length : Int) - 1))]) (by kernel_rfl) (by kernel_rfl) (.k (.c (cleanMap _ _ cl_GInstrument)) (.k (.c rfl) (.k (.ms rfl rfl) (.k (.ms rfl rfl) (.k (.c rfl) (.k (.ms rfl rfl) (.k (.c rfl) .z))))))) (.k rfl (.cells (.r (cleanMap _ _ cl_i))) (.k rfl (.cells (.r (cleanMap _ _ cl_i))) (.k rfl (.cells (.r (cleanMap _ _ (cl_SL cl_i)))) .z)))) ?_
           rintro ⟨l9_21,l9_24⟩ out hl9 rl9
           refine run_s (c47 120) (c47 125) (by kernel_rfl) ?_
           obtain ⟨j10_135,hj10,hl9⟩ := bindE hl9
           let v_8 : AV := .ms 1 0 l9_21.length
           let b_8 : Blk := .cells 1 (l9_21.map AV.i)
           let s_4 : St := ⟨[(6,b_7),(1,b_8),(0,b_3)],7⟩
           refine run_gq (c47 122) (fun (j10_135 : Bool) => (zipE [1,2,13,19,20,21,24,135] [v_0,.i a2,v_4,v_7,.i j6_20,v_8,.i l9_24,.bool j10_135])) (fun (j10_135 : Bool) => s_4) (fun j => j10_135 = j) (fun kj10 => ?_) ?_
           ·rcases iteE hj10 with ⟨hc30,hj10⟩ | ⟨hc30,hj10⟩
            ·obtain ⟨y31,hy31,hj10⟩ := bindE hj10
             replace hj10 := Option.some.inj hj10; subst hj10
             exact run1z (c47 122) [{},{},{},{},{},{ k := 1,n := l9_24.toNat },{ k := 1,x := AV.i y31 },{},{ k := 1,n := a1.length },{},{},{ k := 1,b := true }] [1,2,13,19,20,21,24,135] [v_0,.i a2,v_4,v_7,.i j6_20,v_8,.i l9_24,.bool (decide (y31 = (wr ((a1.length : Int) - 1))))] s_4 _ (by kernel_rfl) (cjC (hc30) (cjC (hc30) (cjC (hc30) (cjC ((ixE hy31).1) (cjC (ixLt hy31) (cjC (Nat.zero_add l9_24.toNat) (cjC (hc30) (cjC (mapGet AV.i (ixE hy31).2) (cjC (hc30) (cjC (hc30) (cjC (mapLen a1 E_GInstrument) (cjC (hc30) (cjC (hc30) (cj1 (hc30))))))))))))))) (kj10 (decide (y31 = (wr ((a1.length : Int) - 1)))) rfl)
            ·replace hj10 := Option.some.inj hj10; subst hj10
             exact run1z (c47 122) [{},{},{},{ g := false },{ g := false },{ g := false },{ g := false },{ g := false },{ g := false },{ g := false },{ g := false },{ k := 1,b := false }] [1,2,13,19,20,21,24,135] [v_0,.i a2,v_4,v_7,.i j6_20,v_8,.i l9_24,.bool false] s_4 _ (by kernel_rfl) (cjC (hc30) (cjC (hc30) (cjC (hc30) (cjC (hc30) (cjC (hc30) (cjC (hc30) (cjC (hc30) (cjC (hc30) (cj1 (hc30)))))))))) (kj10 false rfl)
           ·rintro _ rfl
            rcases iteE hl9 with ⟨hc32,hl9⟩ | ⟨hc32,hl9⟩
            ·refine run_cT 135 (c47 123) (c47 124) j10_135 hc32 (by kernel_rfl) (by kernel_rfl) ?_
             refine run_k (by kernel_rfl) ?_
             refine thenN ?_
             refine run_b 9 (c47 126) (by kernel_rfl) ?_
             obtain ⟨y33,hy33,hl9⟩ := bindE hl9
             let b_9 : Blk := .cells 1 ((l9_21.set l9_24.toNat 0).map AV.i)
             let s_5 : St := ⟨[(6,b_7),(1,b_9),(0,b_3)],7⟩
             refine run1z (c47 128) [{},{},{ k := 1,n := l9_24.toNat },{ k := 1,x := AV.i y33,l := (l9_21.set l9_24.toNat 0).map AV.i }] [1,2,13,19,20,21,24] [v_0,.i a2,v_4,v_7,.i j6_20,v_8,.i l9_24] s_5 _ (by kernel_rfl) (cjC ((ixE hy33).1) (cjC (ixLt hy33) (cjC (Nat.zero_add l9_24.toNat) (cjC (mapGet AV.i (ixE hy33).2) (cjC ((by decide : (1 : Nat) ≤ 1)) (cj1 (mapSet l9_21 AV.i l9_24.toNat 0))))))) ?_
             refine run_i 7 [] [1,2,13,19,20,21,24] [v_0,.i a2,v_4,v_7,.i j6_20,v_8,.i l9_24] (xs := [v_0,.i a2,v_4,v_7,.i j6_20,.ms 1 0 (l9_21.set l9_24.toNat 0).length,.i l9_24]) (S2 := s_5) ?_ (by intro i e; cases e <;> exact Nat.le_of_ble_eq_true rfl) (by kernel_rfl) (by kernel_rfl) (by kernel_rfl) (.k (.c (cleanMap _ _ cl_GInstrument)) (.k (.c rfl) (.k (.ms rfl rfl) (.k (.ms rfl rfl) (.k (.c rfl) (.k (.e rfl rfl (by simp)) (.k (.c rfl) .z))))))) (.k rfl (.cells (.r (cleanMap _ _ cl_i))) (.k rfl (.cells (.r (cleanMap _ _ cl_i))) (.k rfl (.cells (.r (cleanMap _ _ (cl_SL cl_i)))) .z)))
             refine run0z [] [1,2,13,19,20,21,24] [v_0,.i a2,v_4,v_7,.i j6_20,.ms 1 0 (l9_21.set l9_24.toNat 0).length,.i (wr (l9_24 - 1))] s_5 _ (by kernel_rfl) cj0 ?_
             replace hl9 := Option.some.inj hl9; subst hl9
             refine inbN ?_
             exact ⟨_,rfl,pi [],mkInto (ks := [1,2,13,19,20,21,24]) (ys := [v_0,.i a2,v_4,v_7,.i j6_20,.ms 1 0 (l9_21.set l9_24.toNat 0).length,.i (wr (l9_24 - 1))]) (by kernel_rfl) (by kernel_rfl) (.k (.c (cleanMap _ _ cl_GInstrument)) (.k (.c rfl) (.k (.ms rfl rfl) (.k (.ms rfl rfl) (.k (.c rfl) (.k (.ms rfl rfl) (.k (.c rfl) .z))))))) (.k rfl (.cells (.r (cleanMap _ _ cl_i))) (.k rfl (.cells (.r (cleanMap _ _ cl_i))) (.k rfl (.cells (.r (cleanMap _ _ (cl_SL cl_i)))) .z)))⟩
            ·refine run_cF 135 (c47 123) (c47 124) j10_135 hc32 (by kernel_rfl) (by kernel_rfl) ?_
             replace hl9 := Option.some.inj hl9; subst hl9
             have hr := rl9 _ rfl
             subst hr
             refine awp_p [1,2,13,19,20,21,24] [6,1,0] (zipE [1,2,13,19,20,21,24] [v_0,.i a2,v_4,v_7,.i j6_20,v_8,.i l9_24]) s_4 (by kernel_rfl) (?_)
             refine run_e 8 (by kernel_rfl) ?_
             refine thenE ?_
             refine ⟨⟨_,rfl⟩,?_⟩
             refine inbE ?_
             refine thenN ?_
             exact kl9 (l9_21,l9_24) rfl
          ·rintro ⟨l9x_21,l9x_24⟩ rfl
           refine run_s (c47 130) (c47 137) (by kernel_rfl) ?_
           refine run1z (c47 132) [] [1,2,13,19,20,21,24,142] [v_0,.i a2,v_4,v_7,.i j6_20,.ms 1 0 l9x_21.length,.i l9x_24,.bool (decide (l9x_24 < 0))] ⟨[(6,b_7),(1,.cells 1 (l9x_21.map AV.i)),(0,b_3)],7⟩ _ (by kernel_rfl) cj0 ?_
           rcases iteE hl5 with ⟨hc34,hl5⟩ | ⟨hc34,hl5⟩
           ·refine run_cT 142 (c47 133) (c47 136) (decide (l9x_24 < 0)) hc34 (by kernel_rfl) (by kernel_rfl) ?_
            refine run1z (c47 135) [] [6,7,8] [v_7,.i j6_20,.i 0] ⟨[(6,b_7)],7⟩ _ (by kernel_rfl) cj0 ?_
            replace hl5 := Option.some.inj hl5; subst hl5
            have hr := rl5 _ rfl
            subst hr
            replace h := elimR h
            refine run_z 6 1 (j6_19.map AV.i) [6,7,8] [v_7,.i j6_20,.i 0] (xs := [.sl false (j6_19.map AV.i),.i j6_20,.i 0]) (S2 := ⟨[],7⟩) ?_ (by kernel_rfl) (by kernel_rfl) (.k (.m (mLe j6_19 AV.i) (mapAll j6_19 AV.i)) (.k (.r _) (.k (.r _) .z))) .z rfl rfl
            refine run_t (by kernel_rfl) ?_
            refine thenR ?_
            refine inbR ?_
            refine ⟨⟨_,rfl⟩,?_⟩
            refine inbR ?_
            replace h := Option.some.inj h; subst h
            exact fin_r (by kernel_rfl) rfl
           ·refine run_cF 142 (c47 133) (c47 136) (decide (l9x_24 < 0)) hc34 (by kernel_rfl) (by kernel_rfl) ?_
            refine run_k (by kernel_rfl) ?_
            refine thenN ?_
            obtain ⟨y35,hy35,hl5⟩ := bindE hl5
            refine awp_post (by intro i e; cases e <;> exact Nat.le_of_ble_eq_true rfl) ?_
            let b_10 : Blk := .cells 1 ((l9x_21.set l9x_24.toNat (wr (y35 + 1))).map AV.i)
            refine run0z [{},{},{ k := 1,n := l9x_24.toNat },{ k := 1,x := AV.i y35 },{},{ k := 1,n := l9x_24.toNat },{ k := 1,x := AV.i y35,l := (l9x_21.set l9x_24.toNat (wr (y35 + 1))).map AV.i }] [1,2,13,19,20,21] [v_0,.i a2,v_4,v_7,.i j6_20,.ms 1 0 l9x_21.length] ⟨[(6,b_7),(1,b_10),(0,b_3)],7⟩ _ (by kernel_rfl) (cjC ((ixE hy35).1) (cjC (ixLt hy35) (cjC (Nat.zero_add l9x_24.toNat) (cjC (mapGet AV.i (ixE hy35).2) (cjC ((ixE hy35).1) (cjC (ixLt hy35) (cjC (Nat.zero_add l9x_24.toNat) (cjC (mapGet AV.i (ixE hy35).2) (cjC ((by decide : (1 : Nat) ≤ 1)) (cj1 (mapSet l9x_21 AV.i l9x_24.toNat (wr (y35 + 1))))))))))))) ?_
            refine ⟨7,pi [],(zipE [1,2,13,19,20,21] [v_0,.i a2,v_4,v_7,.i j6_20,.ms 1 0 (l9x_21.set l9x_24.toNat (wr (y35 + 1))).length]),⟨[(6,b_7),(1,b_10),(0,b_3)],7⟩,Nat.le_of_ble_eq_true rfl,mkInto (ks := [1,2,13,19,20,21]) (ys := [v_0,.i a2,v_4,v_7,.i j6_20,.ms 1 0 l9x_21.length]) (by kernel_rfl) (by kernel_rfl) (.k (.c (cleanMap _ _ cl_GInstrument)) (.k (.c rfl) (.k (.ms rfl rfl) (.k (.ms rfl rfl) (.k (.c rfl) (.k (.e rfl rfl (by simp)) .z)))))) (.k rfl (.cells (.r (cleanMap _ _ cl_i))) (.k (x' := b_10) (by kernel_rfl) (.cells (.r (cleanMap _ _ cl_i))) (.k rfl (.cells (.r (cleanMap _ _ (cl_SL cl_i)))) .z))),?_⟩
            replace hl5 := Option.some.inj hl5; subst hl5
            refine inbN ?_
            exact ⟨_,rfl,pi [(2,6)],mkInto (ks := [1,2,13,19,20,21]) (ys := [v_0,.i a2,v_4,v_7,.i j6_20,.ms 1 0 (l9x_21.set l9x_24.toNat (wr (y35 + 1))).length]) (by kernel_rfl) (by kernel_rfl) (.k (.c (cleanMap _ _ cl_GInstrument)) (.k (.c rfl) (.k (.ms rfl rfl) (.k (.ms rfl rfl) (.k (.c rfl) (.k (.ms rfl rfl) .z)))))) (.k rfl (.cells (.r (cleanMap _ _ cl_i))) (.k (x' := b_10) (by kernel_rfl) (.cells (.r (cleanMap _ _ cl_i))) (.k rfl (.cells (.r (cleanMap _ _ (cl_SL cl_i)))) .z)))⟩
        ·rintro ⟨⟩ rfl
         replace h := elimL h
         cases h
def f44 (a0 : List Int) (a1 : List Int) : Option Bool := bif (decide ((a0.length : Int) ≠ (a1.length : Int))) then (some false) else ((loopN (σ := Int) (τ := (Unit ⊕ Bool)) (fun (l1_5 : Int) => bif (decide (l1_5 < (a0.length : Int))) then ((ix a0 l1_5).bind fun y3 => (ix a1 l1_5).bind fun y4 => bif (decide (y3 ≠ y4)) then (some (.inr (.inr false))) else (some (.inl (wr (l1_5 + 1))))) else (some (.inr (.inl ())))) FUEL 0).bind (Sum.elim (fun (_ : Unit) => some true) some))
theorem f44_ok (a0 : List Int) (a1 : List Int) (r : Bool) (h : f44 a0 a1 = some r) : APure Tryz.prog 44 [.sl false (a0.map AV.i),.sl false (a1.map AV.i)] (.bool r) := by
 refine apure (clK (cleanMap a0 _ cl_i) (clK (cleanMap a1 _ cl_i) clZ)) rfl ?_
 let v_0 : AV := .sl false (a0.map AV.i)
 let v_1 : AV := .sl false (a1.map AV.i)
 refine run_f 26 [.tmp 4] (c44 0) (zipE [0,1] [v_0,v_1]) (by kernel_rfl) (by kernel_rfl) (by kernel_rfl) rfl ?_
 unfold f44 at h
 refine run1z (c44 2) [] [0,1] [v_0,v_1] ⟨[],0⟩ _ (by kernel_rfl) cj0 ?_
 refine run_s (c44 3) (c44 10) (by kernel_rfl) ?_
 refine run1z (c44 5) [{},{ k := 1,n := a0.length },{},{ k := 1,n := a1.length }] [0,1,10] [v_0,v_1,.bool (decide ((a0.length : Int) ≠ (a1.length : Int)))] ⟨[],0⟩ _ (by kernel_rfl) (cjC (mapLen a0 AV.i) (cj1 (mapLen a1 AV.i))) ?_
 rcases iteE h with ⟨hc1,h⟩ | ⟨hc1,h⟩
 ·refine run_cT 10 (c44 6) (c44 9) (decide ((a0.length : Int) ≠ (a1.length : Int))) hc1 (by kernel_rfl) (by kernel_rfl) ?_
  refine run1z (c44 8) [] [4] [.bool false] ⟨[],0⟩ _ (by kernel_rfl) cj0 ?_
  refine run_t (by kernel_rfl) ?_
  refine thenR ?_
  replace h := Option.some.inj h; subst h
  exact fin_r (by kernel_rfl) rfl
 ·refine run_cF 10 (c44 6) (c44 9) (decide ((a0.length : Int) ≠ (a1.length : Int))) hc1 (by kernel_rfl) (by kernel_rfl) ?_
  refine run_k (by kernel_rfl) ?_
  refine thenN ?_
  refine run_s (c44 11) (c44 31) (by kernel_rfl) ?_
  refine run1z (c44 13) [] [0,1,5] [v_0,v_1,.i 0] ⟨[],0⟩ _ (by kernel_rfl) cj0 ?_
  obtain ⟨ol1x,hll1x,h⟩ := bindE h
  refine run_tq (fun (_ : Unit) => (zipE [] [])) (fun (_ : Unit) => ⟨[],0⟩) (fun j => ol1x = .inl j) (fun kl1 => ?_) ?_
  ·refine run_b 0 (c44 14) (by kernel_rfl) ?_
   refine run_l (c44 15) _ hll1x (fun (l1_5 : Int) => (zipE [0,1,5] [v_0,v_1,.i l1_5])) (fun (l1_5 : Int) => ⟨[],0⟩) [] (by intro i e; cases e <;> exact Nat.le_of_ble_eq_true rfl) (by kernel_rfl) (mkInto (ks := [0,1,5]) (ys := [v_0,v_1,.i 0]) (by kernel_rfl) (by kernel_rfl) (.k (.c (cleanMap _ _ cl_i)) (.k (.c (cleanMap _ _ cl_i)) (.k (.c rfl) .z))) .z) ?_
   rintro l1_5 out hl1 rl1
   refine run_s (c44 16) (c44 21) (by kernel_rfl) ?_
   refine run1z (c44 18) [{},{},{ k := 1,n := a0.length }] [0,1,5,14] [v_0,v_1,.i l1_5,.bool (decide (l1_5 < (a0.length : Int)))] ⟨[],0⟩ _ (by kernel_rfl) (cj1 (mapLen a0 AV.i)) ?_
   rcases iteE hl1 with ⟨hc2,hl1⟩ | ⟨hc2,hl1⟩
   ·refine run_cT 14 (c44 19) (c44 20) (decide (l1_5 < (a0.length : Int))) hc2 (by kernel_rfl) (by kernel_rfl) ?_
    refine run_k (by kernel_rfl) ?_
    refine thenN ?_
    refine run_s (c44 22) (c44 30) (by kernel_rfl) ?_
    refine run_b 1 (c44 23) (by kernel_rfl) ?_
    obtain ⟨y3,hy3,hl1⟩ := bindE hl1
    obtain ⟨y4,hy4,hl1⟩ := bindE hl1
    refine yun1z (c44 25) [[],[],[0,1],[0,1,2],[],[],[4,5],[4,5,6],[0,1,2,3,4,5,6,7]] [.light 0 false,.light 1 false,.light 2 false,.light 3 false,.light 4 false,.light 5 false,.light 6 false,.light 7 false,.light 8 false] [{},{},{ k := 1,x := AV.i y3 },{},{},{},{ k := 1,x := AV.i y4 }] [0,1,5,25] [v_0,v_1,.i l1_5,.bool (decide (y3 ≠ y4))] ⟨[],0⟩ _ (by kernel_rfl) (cjC ((ixE hy3).1) (cjC (mapGet AV.i (ixE hy3).2) (cjC ((ixE hy4).1) (cj1 (mapGet AV.i (ixE hy4).2))))) ?_
    rcases iteE hl1 with ⟨hc5,hl1⟩ | ⟨hc5,hl1⟩
    ·refine run_cT 25 (c44 26) (c44 29) (decide (y3 ≠ y4)) hc5 (by kernel_rfl) (by kernel_rfl) ?_
     refine run1z (c44 28) [] [4] [.bool false] ⟨[],0⟩ _ (by kernel_rfl) cj0 ?_
     replace hl1 := Option.some.inj hl1; subst hl1
     have hr := rl1 _ rfl
     subst hr
     replace h := elimR h
     refine run_t (by kernel_rfl) ?_
     refine inbR ?_
     refine thenR ?_
     refine ⟨⟨_,rfl⟩,?_⟩
     refine inbR ?_
     refine thenR ?_
     replace h := Option.some.inj h; subst h
     exact fin_r (by kernel_rfl) rfl
    ·refine run_cF 25 (c44 26) (c44 29) (decide (y3 ≠ y4)) hc5 (by kernel_rfl) (by kernel_rfl) ?_
     refine run_k (by kernel_rfl) ?_
     refine inbN ?_
     refine thenN ?_
     refine run0z [] [0,1,5] [v_0,v_1,.i (wr (l1_5 + 1))] ⟨[],0⟩ _ (by kernel_rfl) cj0 ?_
     replace hl1 := Option.some.inj hl1; subst hl1
     exact ⟨_,rfl,pi [],mkInto (ks := [0,1,5]) (ys := [v_0,v_1,.i (wr (l1_5 + 1))]) (by kernel_rfl) (by kernel_rfl) (.k (.c (cleanMap _ _ cl_i)) (.k (.c (cleanMap _ _ cl_i)) (.k (.c rfl) .z))) .z⟩
   ·refine run_cF 14 (c44 19) (c44 20) (decide (l1_5 < (a0.length : Int))) hc2 (by kernel_rfl) (by kernel_rfl) ?_
    replace hl1 := Option.some.inj hl1; subst hl1
    have hr := rl1 _ rfl
    subst hr
    refine awp_p [] [] (zipE [] []) ⟨[],0⟩ (by kernel_rfl) (?_)
    refine run_e 0 (by kernel_rfl) ?_
    refine thenE ?_
    refine ⟨⟨_,rfl⟩,?_⟩
    refine inbE ?_
    exact kl1 () rfl
  ·rintro ⟨⟩ rfl
   replace h := elimL h
   refine thenN ?_
   refine run1z (c44 33) [] [4] [.bool true] ⟨[],0⟩ _ (by kernel_rfl) cj0 ?_
   refine run_t (by kernel_rfl) ?_
   replace h := Option.some.inj h; subst h
   exact fin_r (by kernel_rfl) rfl
def f8 (a0 : List (List GTone)) (a1 : List GInstrument) (a2 : Int) : Option Bool := (((f45 a0).bind fun r1 => bif (!r1) then (some true) else (bif (decide (4 < (a1.length : Int))) then (some (decide ((a1.length : Int) ≤ 6))) else (some false))) : Option Bool).bind fun (j1_25 : Bool) => bif j1_25 then ((f10).bind fun r5 => some r5) else ((f46 a0 a1 a2).bind fun r6 => (f47 a0 a1 a2).bind fun r7 => ((bif (decide (r6.2.2 = r7.2.2)) then (bif (decide (r6.2.1 = r7.2.1)) then ((f44 r6.1 r7.1).bind fun r10 => bif r10 then ((f10).bind fun r12 => some r12) else (some false)) else (some false)) else (some false)) : Option Bool).bind fun (j2_6 : Bool) => some j2_6)
theorem f8_ok (a0 : List (List GTone)) (a1 : List GInstrument) (a2 : Int) (r : Bool) (h : f8 a0 a1 a2 = some r) : APure Tryz.prog 8 [.sl false (a0.map (SL E_GTone)),.sl false (a1.map E_GInstrument),.i a2] (.bool r) := by
 refine apure (clK (cleanMap a0 _ (cl_SL cl_GTone)) (clK (cleanMap a1 _ cl_GInstrument) (clK rfl clZ))) rfl ?_
 let v_0 : AV := .sl false (a1.map E_GInstrument)
 let v_1 : AV := .sl false (a0.map (SL E_GTone))
 refine run_f 59 [.tmp 6] (c8 0) (zipE [0,1,2] [v_1,v_0,.i a2]) (by kernel_rfl) (by kernel_rfl) (by kernel_rfl) rfl ?_
 unfold f8 at h
 refine run1z (c8 2) [] [0,1,2] [v_1,v_0,.i a2] ⟨[],0⟩ _ (by kernel_rfl) cj0 ?_
 refine run_s (c8 3) (c8 10) (by kernel_rfl) ?_
 obtain ⟨j1_25,hj1,h⟩ := bindE h
 refine run_gq (c8 5) (fun (j1_25 : Bool) => (zipE [0,1,2,25] [v_1,v_0,.i a2,.bool j1_25])) (fun (j1_25 : Bool) => ⟨[],0⟩) (fun j => j1_25 = j) (fun kj1 => ?_) ?_
 ·obtain ⟨r1,hr1,hj1⟩ := bindE hj1
  rcases iteE hj1 with ⟨hc2,hj1⟩ | ⟨hc2,hj1⟩
  ·replace hj1 := Option.some.inj hj1; subst hj1
   exact run1z (c8 5) [{},{ c := some (.bool r1,⟨[],0⟩) },{},{},{ g := false },{ g := false },{ g := false },{ g := false },{},{},{},{ g := false },{ k := 1,b := true }] [0,1,2,25] [v_1,v_0,.i a2,.bool true] ⟨[],0⟩ _ (by kernel_rfl) (cjC (f45_ok a0 _ hr1 ⟨[],0⟩) (cjC (hc2) (cjC (hc2) (cjC (hc2) (cjC (hc2) (cjC (hc2) (cj1 (hc2)))))))) (kj1 true rfl)
  ·rcases iteE hj1 with ⟨hc3,hj1⟩ | ⟨hc3,hj1⟩
   ·replace hj1 := Option.some.inj hj1; subst hj1
    exact run1z (c8 5) [{},{ c := some (.bool r1,⟨[],0⟩) },{},{},{},{ k := 1,n := a1.length },{},{},{},{ k := 1,n := a1.length },{},{ k := 1,b := true },{ k := 1,b := false }] [0,1,2,25] [v_1,v_0,.i a2,.bool (decide ((a1.length : Int) ≤ 6))] ⟨[],0⟩ _ (by kernel_rfl) (cjC (f45_ok a0 _ hr1 ⟨[],0⟩) (cjC (hc2) (cjC (hc2) (cjC (mapLen a1 E_GInstrument) (cjC (hc2) (cjC (hc2) (cjC (hc3) (cjC (hc3) (cjC (mapLen a1 E_GInstrument) (cjC (hc3) (cjC (hc2) (cjC (hc3) (cj1 (hc2)))))))))))))) (kj1 (decide ((a1.length : Int) ≤ 6)) rfl)
   ·replace hj1 := Option.some.inj hj1; subst hj1
    exact run1z (c8 5) [{},{ c := some (.bool r1,⟨[],0⟩) },{},{},{},{ k := 1,n := a1.length },{},{},{ g := false },{ g := false },{ g := false },{ k := 1,b := false },{ k := 1,b := false }] [0,1,2,25] [v_1,v_0,.i a2,.bool false] ⟨[],0⟩ _ (by kernel_rfl) (cjC (f45_ok a0 _ hr1 ⟨[],0⟩) (cjC (hc2) (cjC (hc2) (cjC (mapLen a1 E_GInstrument) (cjC (hc2) (cjC (hc2) (cjC (hc3) (cjC (hc3) (cjC (hc3) (cjC (hc2) (cjC (hc3) (cj1 (hc2))))))))))))) (kj1 false rfl)
 ·rintro _ rfl
  rcases iteE h with ⟨hc4,h⟩ | ⟨hc4,h⟩
  ·refine run_cT 25 (c8 6) (c8 9) j1_25 hc4 (by kernel_rfl) (by kernel_rfl) ?_
   obtain ⟨r5,hr5,h⟩ := bindE h
   refine run1z (c8 8) [{ c := some (.bool r5,⟨[],0⟩) }] [6] [.bool r5] ⟨[],0⟩ _ (by kernel_rfl) (cj1 (f10_ok  _ hr5 ⟨[],0⟩)) ?_
   refine run_t (by kernel_rfl) ?_
   refine thenR ?_
   replace h := Option.some.inj h; subst h
   exact fin_r (by kernel_rfl) rfl
  ·refine run_cF 25 (c8 6) (c8 9) j1_25 hc4 (by kernel_rfl) (by kernel_rfl) ?_
   refine run_k (by kernel_rfl) ?_
   refine thenN ?_
   obtain ⟨r6,hr6,h⟩ := bindE h
   let v_2 : AV := .sl false (r6.1.map AV.i)
   refine run1z (c8 12) [{},{},{},{ c := some (.tup [v_2,.i r6.2.1,.i r6.2.2],⟨[],0⟩) }] [0,1,2,7,8,9] [v_1,v_0,.i a2,v_2,.i r6.2.1,.i r6.2.2] ⟨[],0⟩ _ (by kernel_rfl) (cj1 (f46_ok a0 a1 a2 _ hr6 ⟨[],0⟩)) ?_
   obtain ⟨r7,hr7,h⟩ := bindE h
   refine run1z (c8 14) [{},{},{},{ c := some (.tup [.sl false (r7.1.map AV.i),.i r7.2.1,.i r7.2.2],⟨[],0⟩) }] [7,8,9,10,11,12] [v_2,.i r6.2.1,.i r6.2.2,.sl false (r7.1.map AV.i),.i r7.2.1,.i r7.2.2] ⟨[],0⟩ _ (by kernel_rfl) (cj1 (f47_ok a0 a1 a2 _ hr7 ⟨[],0⟩)) ?_
   obtain ⟨j2_6,hj2,h⟩ := bindE h
   refine run_gq (c8 16) (fun (j2_6 : Bool) => (zipE [6] [.bool j2_6])) (fun (j2_6 : Bool) => ⟨[],0⟩) (fun j => j2_6 = j) (fun kj2 => ?_) ?_
   ·rcases iteE hj2 with ⟨hc8,hj2⟩ | ⟨hc8,hj2⟩
    ·rcases iteE hj2 with ⟨hc9,hj2⟩ | ⟨hc9,hj2⟩
     ·obtain ⟨r10,hr10,hj2⟩ := bindE hj2
      rcases iteE hj2 with ⟨hc11,hj2⟩ | ⟨hc11,hj2⟩
      ·obtain ⟨r12,hr12,hj2⟩ := bindE hj2
       replace hj2 := Option.some.inj hj2; subst hj2
       exact run1z (c8 16) [{},{},{},{},{},{},{},{ k := 1,b := true },{},{},{},{ c := some (.bool r10,⟨[],0⟩) },{ k := 1,b := true },{},{ c := some (.bool r12,⟨[],0⟩) },{ k := 1,b := true }] [6] [.bool r12] ⟨[],0⟩ _ (by kernel_rfl) (cjC (hc8) (cjC (hc8) (cjC (hc8) (cjC (hc8) (cjC (hc9) (cjC (hc9) (cjC (hc9) (cjC (f44_ok r6.1 r7.1 _ hr10 ⟨[],0⟩) (cjC (hc9) (cjC (hc11) (cjC (f10_ok  _ hr12 ⟨[],0⟩) (cj1 (hc11))))))))))))) (kj2 r12 rfl)
      ·replace hj2 := Option.some.inj hj2; subst hj2
       exact run1z (c8 16) [{},{},{},{},{},{},{},{ k := 1,b := true },{},{},{},{ c := some (.bool r10,⟨[],0⟩) },{ k := 1,b := true },{},{ g := false },{ k := 1,b := false }] [6] [.bool false] ⟨[],0⟩ _ (by kernel_rfl) (cjC (hc8) (cjC (hc8) (cjC (hc8) (cjC (hc8) (cjC (hc9) (cjC (hc9) (cjC (hc9) (cjC (f44_ok r6.1 r7.1 _ hr10 ⟨[],0⟩) (cjC (hc9) (cjC (hc11) (cj1 (hc11)))))))))))) (kj2 false rfl)
     ·replace hj2 := Option.some.inj hj2; subst hj2
      exact run1z (c8 16) [{},{},{},{},{},{},{},{ k := 1,b := true },{},{ g := false },{ g := false },{ g := false },{ k := 1,b := false },{},{ g := false }] [6] [.bool false] ⟨[],0⟩ _ (by kernel_rfl) (cjC (hc8) (cjC (hc8) (cjC (hc8) (cjC (hc8) (cjC (hc9) (cjC (hc9) (cjC (hc9) (cjC (hc9) (cj1 (Eq.refl false)))))))))) (kj2 false rfl)
    ·replace hj2 := Option.some.inj hj2; subst hj2
     exact run1z (c8 16) [{},{},{},{},{ g := false },{ g := false },{ g := false },{ k := 1,b := false },{},{ g := false },{ g := false },{ g := false },{},{},{ g := false }] [6] [.bool false] ⟨[],0⟩ _ (by kernel_rfl) (cjC (hc8) (cjC (hc8) (cjC (hc8) (cjC (hc8) (cjC (Eq.refl false) (cjC (Eq.refl false) (cjC (Eq.refl false) (cj1 (Eq.refl false))))))))) (kj2 false rfl)
   ·rintro _ rfl
    refine run_t (by kernel_rfl) ?_
    replace h := Option.some.inj h; subst h
    exact fin_r (by kernel_rfl) rfl
end Go.Proofs.YtodkhgjhodmeoaaGreat
