/-
 Functions of the program as Lean functions,and the walks. Written by a program of ours.
-/
import Derived.Test.YtpljabnngpnieaaV32
import Derived.Test.YtpljabnngpnieaaV11
import Derived.Test.YtpljabnngpnieaaV13
import Derived.Test.YtpljabnngpnieaaV16
import Derived.Test.YtpljabnngpnieaaV14
import Derived.Test.YtpljabnngpnieaaV8
import Derived.Test.YtpljabnngpnieaaV21
import Derived.Test.YtpljabnngpnieaaV23
namespace Go.Proofs.Ytpljabnngpnieaa
open Go Go.Am
set_option maxRecDepth 100000
set_option linter.all false
noncomputable def c5 (k : Nat) : Code := nthC (subs (Try.f5.body.getD .skip)) k
def f5 (a0 : GConsort) : Option Bool := (f9 a0.pieces).bind fun r1 => bif r1 then ((f10).bind fun r3 => some r3) else ((f11 a0).bind (Sum.elim (fun r4a => bif (decide (r4a ≠ 0)) then ((f10).bind fun r6 => some r6) else ((f16).bind fun r7 => ((bif (!r7.2) then (some true) else ((f22).bind fun r9 => bif (!r9) then (some true) else ((f23).bind fun r11 => some (decide ((r11.length : Int) ≠ 0))))) : Option Bool).bind fun (j1_37 : Bool) => bif j1_37 then (some false) else ((loopN (σ := Int) (τ := (Unit ⊕ Bool)) (fun (l2_7 : Int) => bif (decide (l2_7 < (r7.1.length : Int))) then ((ix r7.1 l2_7).bind fun y14 => (ix r7.1 (wr (l2_7 - 1))).bind fun y15 => bif (decide (y14.time ≤ y15.time)) then (some (.inr (.inr false))) else (some (.inl (wr (l2_7 + 1))))) else (some (.inr (.inl ())))) FUEL 1).bind (Sum.elim (fun (_ : Unit) => (((f19).bind fun r17 => (f14 a0).bind fun r18 => bif (decide (r17 = r18)) then ((f24).bind fun r20 => (f14 a0).bind fun r21 => bif (decide (r20 = r21)) then ((f20).bind fun r23 => (f21 a0 r23 (-1) 0).bind fun r24 => bif r24 then ((f10).bind fun r26 => some r26) else (some false)) else (some false)) else (some false)) : Option Bool).bind fun (j3_2 : Bool) => some j3_2) some)))) (fun r4b => (f16_1 (⟨(⟨0⟩ : GCClock),0,r4b.1,true,r4b.2,0,0,0,(⟨([] : List GCLive)⟩ : GCShelf_live),([] : List GTake)⟩ : GCPlayer)).bind fun r27 => ((bif (!r27.2.1) then (some true) else ((f22_1 (⟨(⟨r27.2.2.1⟩ : GCClock),r27.2.2.2.1,r4b.1,r27.2.2.2.2.1,r27.2.2.2.2.2.1,0,0,r27.2.2.2.2.2.2.1,(⟨r27.2.2.2.2.2.2.2.1⟩ : GCShelf_live),r27.2.2.2.2.2.2.2.2⟩ : GCPlayer)).bind fun r29 => bif (!r29) then (some true) else ((f23_1 (⟨(⟨r27.2.2.1⟩ : GCClock),r27.2.2.2.1,r4b.1,r27.2.2.2.2.1,r27.2.2.2.2.2.1,0,0,r27.2.2.2.2.2.2.1,(⟨r27.2.2.2.2.2.2.2.1⟩ : GCShelf_live),r27.2.2.2.2.2.2.2.2⟩ : GCPlayer)).bind fun r31 => some (decide ((r31.length : Int) ≠ 0))))) : Option Bool).bind fun (j4_37 : Bool) => bif j4_37 then (some false) else ((loopN (σ := Int) (τ := (Unit ⊕ Bool)) (fun (l5_7 : Int) => bif (decide (l5_7 < (r27.1.length : Int))) then ((ix r27.1 l5_7).bind fun y34 => (ix r27.1 (wr (l5_7 - 1))).bind fun y35 => bif (decide (y34.time ≤ y35.time)) then (some (.inr (.inr false))) else (some (.inl (wr (l5_7 + 1))))) else (some (.inr (.inl ())))) FUEL 1).bind (Sum.elim (fun (_ : Unit) => (((f19_1 (⟨(⟨r27.2.2.1⟩ : GCClock),r27.2.2.2.1,r4b.1,r27.2.2.2.2.1,r27.2.2.2.2.2.1,0,0,r27.2.2.2.2.2.2.1,(⟨r27.2.2.2.2.2.2.2.1⟩ : GCShelf_live),r27.2.2.2.2.2.2.2.2⟩ : GCPlayer)).bind fun r37 => (f14 a0).bind fun r38 => bif (decide (r27.2.2.1 = r38)) then ((f24_1 (⟨(⟨r27.2.2.1⟩ : GCClock),r27.2.2.2.1,r4b.1,r27.2.2.2.2.1,r27.2.2.2.2.2.1,0,0,r27.2.2.2.2.2.2.1,(⟨r27.2.2.2.2.2.2.2.1⟩ : GCShelf_live),r27.2.2.2.2.2.2.2.2⟩ : GCPlayer)).bind fun r40 => (f14 a0).bind fun r41 => bif (decide (r27.2.2.2.1 = r41)) then ((f20_1 (⟨(⟨r27.2.2.1⟩ : GCClock),r27.2.2.2.1,r4b.1,r27.2.2.2.2.1,r27.2.2.2.2.2.1,0,0,r27.2.2.2.2.2.2.1,(⟨r27.2.2.2.2.2.2.2.1⟩ : GCShelf_live),r27.2.2.2.2.2.2.2.2⟩ : GCPlayer)).bind fun r43 => (f21 a0 r43 (-1) 0).bind fun r44 => bif r44 then ((f10).bind fun r46 => some r46) else (some false)) else (some false)) else (some false)) : Option Bool).bind fun (j6_2 : Bool) => some j6_2) some)))))
theorem f5_ok (a0 : GConsort) (r : Bool) (h : f5 a0 = some r) : APure Try.prog 5 [E_GConsort a0] (.bool r) := by
 refine apure (clK (cl_GConsort a0) clZ) rfl ?_
 refine run_f 77 [.tmp 2] (c5 0) (zipE [0] [E_GConsort a0]) (by kernel_rfl) (by kernel_rfl) (by kernel_rfl) rfl ?_
 unfold f5 at h
 let b_0 : Blk := .cells 1 [E_GConsort a0]
 refine run1z (c5 2) [] [1] [.mp 0 0 0] ⟨[(0,b_0)],1⟩ _ (by kernel_rfl) cj0 ?_
 refine run_s (c5 3) (c5 10) (by kernel_rfl) ?_
 obtain ⟨r1,hr1,h⟩ := bindE h
 refine run1z (c5 5) [{},{},{ c := some (.bool r1,⟨[(0,b_0)],1⟩) }] [1,10] [.mp 0 0 0,.bool r1] ⟨[(0,b_0)],1⟩ _ (by kernel_rfl) (cj1 (f9_ok a0.pieces _ hr1 ⟨[(0,b_0)],1⟩)) ?_
 rcases iteE h with ⟨hc2,h⟩ | ⟨hc2,h⟩
 ·refine run_cT 10 (c5 6) (c5 9) r1 hc2 (by kernel_rfl) (by kernel_rfl) ?_
  obtain ⟨r3,hr3,h⟩ := bindE h
  refine run1z (c5 8) [{ c := some (.bool r3,⟨[(0,b_0)],1⟩) }] [2] [.bool r3] ⟨[],1⟩ _ (by kernel_rfl) (cj1 (f10_ok  _ hr3 ⟨[(0,b_0)],1⟩)) ?_
  refine run_t (by kernel_rfl) ?_
  refine thenR ?_
  replace h := Option.some.inj h; subst h
  exact fin_r (by kernel_rfl) rfl
 ·refine run_cF 10 (c5 6) (c5 9) r1 hc2 (by kernel_rfl) (by kernel_rfl) ?_
  refine run_k (by kernel_rfl) ?_
  refine thenN ?_
  obtain ⟨r4,hr4,h⟩ := bindE h
  rcases r4 with r4a | r4b
  ·replace h := elimL h
   refine run1z (c5 12) [{},{ c := some (.tup [.nilp,.i r4a],⟨[(0,b_0)],5⟩) }] [1,3,4] [.mp 0 0 0,.nilp,.i r4a] ⟨[(0,b_0)],5⟩ _ (by kernel_rfl) (cj1 (callF (f11_ok a0 (.inl r4a) hr4) [] [] [0] [E_GConsort a0] ⟨[(0,b_0)],1⟩ (.tup [.nilp,.i r4a]) ⟨[(0,b_0)],5⟩ (by kernel_rfl) (.k (.c (cl_GConsort a0)) .z) (.t (.k (.c rfl) (.k (.c rfl) .z))) .z (.f rfl (by kernel_rfl) .z))) ?_
   refine run_s (c5 13) (c5 20) (by kernel_rfl) ?_
   refine run1z (c5 15) [] [1,3,18] [.mp 0 0 0,.nilp,.bool (decide (r4a ≠ 0))] ⟨[(0,b_0)],5⟩ _ (by kernel_rfl) cj0 ?_
   rcases iteE h with ⟨hc5,h⟩ | ⟨hc5,h⟩
   ·refine run_cT 18 (c5 16) (c5 19) (decide (r4a ≠ 0)) hc5 (by kernel_rfl) (by kernel_rfl) ?_
    obtain ⟨r6,hr6,h⟩ := bindE h
    refine run1z (c5 18) [{ c := some (.bool r6,⟨[(0,b_0)],5⟩) }] [2] [.bool r6] ⟨[],5⟩ _ (by kernel_rfl) (cj1 (f10_ok  _ hr6 ⟨[(0,b_0)],5⟩)) ?_
    refine run_t (by kernel_rfl) ?_
    refine thenR ?_
    replace h := Option.some.inj h; subst h
    exact fin_r (by kernel_rfl) rfl
   ·refine run_cF 18 (c5 16) (c5 19) (decide (r4a ≠ 0)) hc5 (by kernel_rfl) (by kernel_rfl) ?_
    refine run_k (by kernel_rfl) ?_
    refine thenN ?_
    obtain ⟨r7,hr7,h⟩ := bindE h
    let v_0 : AV := .sl false (r7.1.map E_GFrame)
    refine run1z (c5 22) [{},{ c := some (.tup [v_0,.bool r7.2],⟨[(0,b_0)],5⟩) }] [1,3,5,6] [.mp 0 0 0,.nilp,v_0,.bool r7.2] ⟨[(0,b_0)],5⟩ _ (by kernel_rfl) (cj1 (APure.co (ok := fun _ => false) (π := id) (args := [.nilp]) (f16_ok  _ hr7) (.k (.c rfl) .z) ⟨[(0,b_0)],5⟩)) ?_
    refine run_s (c5 23) (c5 30) (by kernel_rfl) ?_
    obtain ⟨j1_37,hj1,h⟩ := bindE h
    refine run_gq (c5 25) (fun (j1_37 : Bool) => (zipE [1,3,5,37] [.mp 0 0 0,.nilp,v_0,.bool j1_37])) (fun (j1_37 : Bool) => ⟨[(0,b_0)],5⟩) (fun j => j1_37 = j) (fun kj1 => ?_) ?_
    ·rcases iteE hj1 with ⟨hc8,hj1⟩ | ⟨hc8,hj1⟩
     ·replace hj1 := Option.some.inj hj1; subst hj1
      exact run1z (c5 25) [{},{},{},{ g := false },{ g := false },{ g := false },{ k := 1,b := true },{},{ g := false },{ g := false },{ g := false },{ g := false }] [1,3,5,37] [.mp 0 0 0,.nilp,v_0,.bool true] ⟨[(0,b_0)],5⟩ _ (by kernel_rfl) (cjC (hc8) (cjC (hc8) (cjC (hc8) (cjC (hc8) (cjC (Eq.refl true) (cjC (Eq.refl true) (cjC (Eq.refl true) (cj1 (Eq.refl true))))))))) (kj1 true rfl)
     ·obtain ⟨r9,hr9,hj1⟩ := bindE hj1
      rcases iteE hj1 with ⟨hc10,hj1⟩ | ⟨hc10,hj1⟩
      ·replace hj1 := Option.some.inj hj1; subst hj1
       exact run1z (c5 25) [{},{},{},{},{ c := some (.bool r9,⟨[(0,b_0)],5⟩) },{},{ k := 1,b := false },{},{ g := false },{ g := false },{ g := false },{ g := false },{ k := 1,b := true }] [1,3,5,37] [.mp 0 0 0,.nilp,v_0,.bool true] ⟨[(0,b_0)],5⟩ _ (by kernel_rfl) (cjC (hc8) (cjC (hc8) (cjC (APure.co (ok := fun _ => false) (π := id) (args := [.nilp]) (f22_ok  _ hr9) (.k (.c rfl) .z) ⟨[(0,b_0)],5⟩) (cjC (hc8) (cjC (hc8) (cjC (hc10) (cjC (hc10) (cjC (hc10) (cjC (hc10) (cj1 (hc10))))))))))) (kj1 true rfl)
      ·obtain ⟨r11,hr11,hj1⟩ := bindE hj1
       replace hj1 := Option.some.inj hj1; subst hj1
       exact run1z (c5 25) [{},{},{},{},{ c := some (.bool r9,⟨[(0,b_0)],5⟩) },{},{ k := 1,b := false },{},{},{ c := some (.sl false (r11.map E_GVoice),⟨[(0,b_0)],5⟩) },{ k := 1,n := r11.length },{},{ k := 1,b := false }] [1,3,5,37] [.mp 0 0 0,.nilp,v_0,.bool (decide ((r11.length : Int) ≠ 0))] ⟨[(0,b_0)],5⟩ _ (by kernel_rfl) (cjC (hc8) (cjC (hc8) (cjC (APure.co (ok := fun _ => false) (π := id) (args := [.nilp]) (f22_ok  _ hr9) (.k (.c rfl) .z) ⟨[(0,b_0)],5⟩) (cjC (hc8) (cjC (hc8) (cjC (hc10) (cjC (hc10) (cjC (APure.co (ok := fun _ => false) (π := id) (args := [.nilp]) (f23_ok  _ hr11) (.k (.c rfl) .z) ⟨[(0,b_0)],5⟩) (cjC (hc10) (cjC (mapLen r11 E_GVoice) (cjC (hc10) (cj1 (hc10))))))))))))) (kj1 (decide ((r11.length : Int) ≠ 0)) rfl)
    ·rintro _ rfl
     rcases iteE h with ⟨hc12,h⟩ | ⟨hc12,h⟩
     ·refine run_cT 37 (c5 26) (c5 29) j1_37 hc12 (by kernel_rfl) (by kernel_rfl) ?_
      refine run1z (c5 28) [] [2] [.bool false] ⟨[],5⟩ _ (by kernel_rfl) cj0 ?_
      refine run_t (by kernel_rfl) ?_
      refine thenR ?_
      replace h := Option.some.inj h; subst h
      exact fin_r (by kernel_rfl) rfl
     ·refine run_cF 37 (c5 26) (c5 29) j1_37 hc12 (by kernel_rfl) (by kernel_rfl) ?_
      refine run_k (by kernel_rfl) ?_
      refine thenN ?_
      refine run_s (c5 31) (c5 51) (by kernel_rfl) ?_
      refine run1z (c5 33) [] [1,3,5,7] [.mp 0 0 0,.nilp,v_0,.i 1] ⟨[(0,b_0)],5⟩ _ (by kernel_rfl) cj0 ?_
      obtain ⟨ol2x,hll2x,h⟩ := bindE h
      refine run_tq (fun (_ : Unit) => (zipE [1,3] [.mp 0 0 0,.nilp])) (fun (_ : Unit) => ⟨[(0,b_0)],5⟩) (fun j => ol2x = .inl j) (fun kl2 => ?_) ?_
      ·refine run_b 0 (c5 34) (by kernel_rfl) ?_
       refine run_l (c5 35) _ hll2x (fun (l2_7 : Int) => (zipE [1,3,5,7] [.mp 0 0 0,.nilp,v_0,.i l2_7])) (fun (l2_7 : Int) => ⟨[(0,b_0)],5⟩) [] (by intro i e; cases e <;> exact Nat.le_of_ble_eq_true rfl) (by kernel_rfl) (mkInto (ks := [1,3,5,7]) (ys := [.mp 0 0 0,.nilp,v_0,.i 1]) (by kernel_rfl) (by kernel_rfl) (.k (.mp rfl rfl) (.k (.c rfl) (.k (.c (cleanMap _ _ cl_GFrame)) (.k (.c rfl) .z)))) (.k rfl (.cells (.k (.c (cl_GConsort a0)) .z)) .z)) ?_
       rintro l2_7 out hl2 rl2
       refine run_s (c5 36) (c5 41) (by kernel_rfl) ?_
       refine run1z (c5 38) [{},{},{ k := 1,n := r7.1.length }] [1,3,5,7,41] [.mp 0 0 0,.nilp,v_0,.i l2_7,.bool (decide (l2_7 < (r7.1.length : Int)))] ⟨[(0,b_0)],5⟩ _ (by kernel_rfl) (cj1 (mapLen r7.1 E_GFrame)) ?_
       rcases iteE hl2 with ⟨hc13,hl2⟩ | ⟨hc13,hl2⟩
       ·refine run_cT 41 (c5 39) (c5 40) (decide (l2_7 < (r7.1.length : Int))) hc13 (by kernel_rfl) (by kernel_rfl) ?_
        refine run_k (by kernel_rfl) ?_
        refine thenN ?_
        refine run_s (c5 42) (c5 50) (by kernel_rfl) ?_
        refine run_b 1 (c5 43) (by kernel_rfl) ?_
        obtain ⟨y14,hy14,hl2⟩ := bindE hl2
        obtain ⟨y15,hy15,hl2⟩ := bindE hl2
        refine yun1z (c5 45) [[],[],[0,1],[0,1,2],[0,1,2,3],[],[],[6],[5,6,7],[5,6,7,8],[5,6,7,8,9],[0,1,2,3,4,5,6,7,8,9,10]] [.light 0 false,.light 1 false,.light 2 false,.light 3 false,.light 4 false,.light 5 false,.light 6 false,.light 7 false,.light 8 false,.light 9 false,.light 10 false,.light 11 false] [{},{},{ k := 1,x := E_GFrame y14 },{},{},{},{},{},{ k := 1,x := E_GFrame y15 }] [1,3,5,7,55] [.mp 0 0 0,.nilp,v_0,.i l2_7,.bool (decide (y14.time ≤ y15.time))] ⟨[(0,b_0)],5⟩ _ (by kernel_rfl) (cjC ((ixE hy14).1) (cjC (mapGet E_GFrame (ixE hy14).2) (cjC ((ixE hy15).1) (cj1 (mapGet E_GFrame (ixE hy15).2))))) ?_
        rcases iteE hl2 with ⟨hc16,hl2⟩ | ⟨hc16,hl2⟩
        ·refine run_cT 55 (c5 46) (c5 49) (decide (y14.time ≤ y15.time)) hc16 (by kernel_rfl) (by kernel_rfl) ?_
         refine run1z (c5 48) [] [2] [.bool false] ⟨[],5⟩ _ (by kernel_rfl) cj0 ?_
         replace hl2 := Option.some.inj hl2; subst hl2
         have hr := rl2 _ rfl
         subst hr
         replace h := elimR h
         refine run_t (by kernel_rfl) ?_
         refine inbR ?_
         refine thenR ?_
         refine ⟨⟨_,rfl⟩,?_⟩
         refine inbR ?_
         refine thenR ?_
         replace h := Option.some.inj h; subst h
         exact fin_r (by kernel_rfl) rfl
        ·refine run_cF 55 (c5 46) (c5 49) (decide (y14.time ≤ y15.time)) hc16 (by kernel_rfl) (by kernel_rfl) ?_
         refine run_k (by kernel_rfl) ?_
         refine inbN ?_
         refine thenN ?_
         refine run0z [] [1,3,5,7] [.mp 0 0 0,.nilp,v_0,.i (wr (l2_7 + 1))] ⟨[(0,b_0)],5⟩ _ (by kernel_rfl) cj0 ?_
         replace hl2 := Option.some.inj hl2; subst hl2
         exact ⟨_,rfl,pi [],mkInto (ks := [1,3,5,7]) (ys := [.mp 0 0 0,.nilp,v_0,.i (wr (l2_7 + 1))]) (by kernel_rfl) (by kernel_rfl) (.k (.mp rfl rfl) (.k (.c rfl) (.k (.c (cleanMap _ _ cl_GFrame)) (.k (.c rfl) .z)))) (.k rfl (.cells (.k (.c (cl_GConsort a0)) .z)) .z)⟩
       ·refine run_cF 41 (c5 39) (c5 40) (decide (l2_7 < (r7.1.length : Int))) hc13 (by kernel_rfl) (by kernel_rfl) ?_
        replace hl2 := Option.some.inj hl2; subst hl2
        have hr := rl2 _ rfl
        subst hr
        refine awp_p [1,3] [0] (zipE [1,3] [.mp 0 0 0,.nilp]) ⟨[(0,b_0)],5⟩ (by kernel_rfl) (?_)
        refine run_e 0 (by kernel_rfl) ?_
        refine thenE ?_
        refine ⟨⟨_,rfl⟩,?_⟩
        refine inbE ?_
        exact kl2 () rfl
      ·rintro ⟨⟩ rfl
       replace h := elimL h
       refine thenN ?_
       obtain ⟨j3_2,hj3,h⟩ := bindE h
       refine run_gq (c5 53) (fun (j3_2 : Bool) => (zipE [2] [.bool j3_2])) (fun (j3_2 : Bool) => ⟨[],5⟩) (fun j => j3_2 = j) (fun kj3 => ?_) ?_
       ·obtain ⟨r17,hr17,hj3⟩ := bindE hj3
        obtain ⟨r18,hr18,hj3⟩ := bindE hj3
        rcases iteE hj3 with ⟨hc19,hj3⟩ | ⟨hc19,hj3⟩
        ·obtain ⟨r20,hr20,hj3⟩ := bindE hj3
         obtain ⟨r21,hr21,hj3⟩ := bindE hj3
         rcases iteE hj3 with ⟨hc22,hj3⟩ | ⟨hc22,hj3⟩
         ·obtain ⟨r23,hr23,hj3⟩ := bindE hj3
          obtain ⟨r24,hr24,hj3⟩ := bindE hj3
          rcases iteE hj3 with ⟨hc25,hj3⟩ | ⟨hc25,hj3⟩
          ·obtain ⟨r26,hr26,hj3⟩ := bindE hj3
           replace hj3 := Option.some.inj hj3; subst hj3
           exact yun1z (c5 53) [[],[0],[],[0,1,2],[0,1,2,3],[0,1,2,3,4],[0,1,2,3,4,5],[0,1,2,3,4,5,6],[0,1,2,3,4,5],[0,1,2,3,4,5,6,7,8],[0,1,2,3,4,5,6,7,8,9],[0,1,2,3,4,5,6,7,8,9,10],[0,1,2,3,4,5,6,7,8,9,10,11],[0,1,2,3,4,5,6,7,8,9,10,11,12],[0,1,2,3,4,5,6,7,8,9,10,11,12],[0,1,2,3,4,5,6,7,8,9,10,11,12,14],[0,1,2,3,4,5,6,7,8,9,10,11,12,13,14,15],[0,1,2,3,4,5,6,7,8,9,10,11,12,13,14,15,16],[0,1,2,3,4,5,6,7,8,9,10,11,12,13,14,15,16,17],[0,1,2,3,4,5,6,7,8,9,10,11,12,13,14,15,16,17,18],[0,1,2,3,4,5,6,7,8,9,10,11,12,13,14,15,16,17,18,19],[0,1,2,3,4,5,6,7,8,9,10,11,12,13,14,15,16,17,18,19,20]] [.light 0 false,.light 2 true,.heavy 1 [2],.heavy 3 [],.light 4 false,.light 5 false,.light 6 false,.light 8 true,.heavy 7 [8],.heavy 9 [],.light 10 false,.light 11 false,.light 12 false,.light 13 true,.light 14 false,.heavy 15 [13],.heavy 16 [],.light 17 false,.light 18 false,.heavy 19 [],.light 20 false,.light 21 false] [{},{},{ c := some (.i r17,⟨[(0,b_0)],5⟩) },{ c := some (.i r18,⟨[(0,b_0)],5⟩) },{},{},{},{},{ c := some (.i r20,⟨[(0,b_0)],5⟩) },{ c := some (.i r21,⟨[(0,b_0)],5⟩) },{},{},{},{},{},{ c := some (.sl false (r23.map E_GTake),⟨[(0,b_0)],5⟩) },{ c := some (.bool r24,⟨[(0,b_0)],5⟩) },{},{},{ c := some (.bool r26,⟨[(0,b_0)],5⟩) }] [2] [.bool r26] ⟨[],5⟩ _ (by kernel_rfl) (cjC (APure.co (ok := fun _ => false) (π := id) (args := [.nilp]) (f19_ok  _ hr17) (.k (.c rfl) .z) ⟨[(0,b_0)],5⟩) (cjC (@Eq.refl AV (E_GConsort a0)) (cjC (f14_ok a0 _ hr18 ⟨[(0,b_0)],5⟩) (cjC (hc19) (cjC (Eq.refl true) (cjC (Eq.refl true) (cjC (APure.co (ok := fun _ => false) (π := id) (args := [.nilp]) (f24_ok  _ hr20) (.k (.c rfl) .z) ⟨[(0,b_0)],5⟩) (cjC (@Eq.refl AV (E_GConsort a0)) (cjC (Eq.refl true) (cjC (f14_ok a0 _ hr21 ⟨[(0,b_0)],5⟩) (cjC (Eq.refl true) (cjC (hc22) (cjC (Eq.refl true) (cjC (Eq.refl true) (cjC (APure.co (ok := fun _ => false) (π := id) (args := [.nilp]) (f20_ok  _ hr23) (.k (.c rfl) .z) ⟨[(0,b_0)],5⟩) (cjC (@Eq.refl AV (E_GConsort a0)) (cjC (Eq.refl true) (cjC (f21_ok a0 r23 (-1) 0 _ hr24 ⟨[(0,b_0)],5⟩) (cjC (hc25) (cj1 (f10_ok  _ hr26 ⟨[(0,b_0)],5⟩))))))))))))))))))))) (kj3 r26 rfl)
          ·replace hj3 := Option.some.inj hj3; subst hj3
           exact yun1z (c5 53) [[],[0],[],[0,1,2],[0,1,2,3],[0,1,2,3,4],[0,1,2,3,4,5],[0,1,2,3,4,5,6],[0,1,2,3,4,5],[0,1,2,3,4,5,6,7,8],[0,1,2,3,4,5,6,7,8,9],[0,1,2,3,4,5,6,7,8,9,10],[0,1,2,3,4,5,6,7,8,9,10,11],[0,1,2,3,4,5,6,7,8,9,10,11,12],[0,1,2,3,4,5,6,7,8,9,10,11,12],[0,1,2,3,4,5,6,7,8,9,10,11,12,14],[0,1,2,3,4,5,6,7,8,9,10,11,12,13,14,15],[0,1,2,3,4,5,6,7,8,9,10,11,12,13,14,15,16],[0,1,2,3,4,5,6,7,8,9,10,11,12,13,14,15,16,17],[0,1,2,3,4,5,6,7,8,9,10,11,12,13,14,15,16,17,18],[0,1,2,3,4,5,6,7,8,9,10,11,12,13,14,15,16,17,18,19],[0,1,2,3,4,5,6,7,8,9,10,11,12,13,14,15,16,17,18,19,20]] [.light 0 false,.light 2 true,.heavy 1 [2],.heavy 3 [],.light 4 false,.light 5 false,.light 6 false,.light 8 true,.heavy 7 [8],.heavy 9 [],.light 10 false,.light 11 false,.light 12 false,.light 13 true,.light 14 false,.heavy 15 [13],.heavy 16 [],.light 17 false,.light 18 false,.heavy 19 [],.light 20 false,.light 21 false] [{},{},{ c := some (.i r17,⟨[(0,b_0)],5⟩) },{ c := some (.i r18,⟨[(0,b_0)],5⟩) },{},{},{},{},{ c := some (.i r20,⟨[(0,b_0)],5⟩) },{ c := some (.i r21,⟨[(0,b_0)],5⟩) },{},{},{},{},{},{ c := some (.sl false (r23.map E_GTake),⟨[(0,b_0)],5⟩) },{ c := some (.bool r24,⟨[(0,b_0)],5⟩) },{},{},{ g := false }] [2] [.bool false] ⟨[],5⟩ _ (by kernel_rfl) (cjC (APure.co (ok := fun _ => false) (π := id) (args := [.nilp]) (f19_ok  _ hr17) (.k (.c rfl) .z) ⟨[(0,b_0)],5⟩) (cjC (@Eq.refl AV (E_GConsort a0)) (cjC (f14_ok a0 _ hr18 ⟨[(0,b_0)],5⟩) (cjC (hc19) (cjC (Eq.refl true) (cjC (Eq.refl true) (cjC (APure.co (ok := fun _ => false) (π := id) (args := [.nilp]) (f24_ok  _ hr20) (.k (.c rfl) .z) ⟨[(0,b_0)],5⟩) (cjC (@Eq.refl AV (E_GConsort a0)) (cjC (Eq.refl true) (cjC (f14_ok a0 _ hr21 ⟨[(0,b_0)],5⟩) (cjC (Eq.refl true) (cjC (hc22) (cjC (Eq.refl true) (cjC (Eq.refl true) (cjC (APure.co (ok := fun _ => false) (π := id) (args := [.nilp]) (f20_ok  _ hr23) (.k (.c rfl) .z) ⟨[(0,b_0)],5⟩) (cjC (@Eq.refl AV (E_GConsort a0)) (cjC (Eq.refl true) (cjC (f21_ok a0 r23 (-1) 0 _ hr24 ⟨[(0,b_0)],5⟩) (cj1 (hc25)))))))))))))))))))) (kj3 false rfl)
         ·replace hj3 := Option.some.inj hj3; subst hj3
          exact yun1z (c5 53) [[],[0],[],[0,1,2],[0,1,2,3],[0,1,2,3,4],[0,1,2,3,4,5],[0,1,2,3,4,5,6],[0,1,2,3,4,5],[0,1,2,3,4,5,6,7,8],[0,1,2,3,4,5,6,7,8,9],[0,1,2,3,4,5,6,7,8,9,10],[0,1,2,3,4,5,6,7,8,9,10,11],[0,1,2,3,4,5,6,7,8,9,10,11,12],[0,1,2,3,4,5,6,7,8,9,10,11,12],[0,1,2,3,4,5,6,7,8,9,10,11,12,14],[0,1,2,3,4,5,6,7,8,9,10,11,12,13,14,15],[0,1,2,3,4,5,6,7,8,9,10,11,12,13,14,15,16],[0,1,2,3,4,5,6,7,8,9,10,11,12,13,14,15,16,17],[0,1,2,3,4,5,6,7,8,9,10,11,12,13,14,15,16,17,18],[0,1,2,3,4,5,6,7,8,9,10,11,12,13,14,15,16,17,18,19],[0,1,2,3,4,5,6,7,8,9,10,11,12,13,14,15,16,17,18,19,20]] [.light 0 false,.light 2 true,.heavy 1 [2],.heavy 3 [],.light 4 false,.light 5 false,.light 6 false,.light 8 true,.heavy 7 [8],.heavy 9 [],.light 10 false,.light 11 false,.light 12 false,.light 13 true,.light 14 false,.heavy 15 [13],.heavy 16 [],.light 17 false,.light 18 false,.heavy 19 [],.light 20 false,.light 21 false] [{},{},{ c := some (.i r17,⟨[(0,b_0)],5⟩) },{ c := some (.i r18,⟨[(0,b_0)],5⟩) },{},{},{},{},{ c := some (.i r20,⟨[(0,b_0)],5⟩) },{ c := some (.i r21,⟨[(0,b_0)],5⟩) },{},{},{},{ g := false },{ g := false },{ g := false },{ g := false },{},{},{ g := false }] [2] [.bool false] ⟨[],5⟩ _ (by kernel_rfl) (cjC (APure.co (ok := fun _ => false) (π := id) (args := [.nilp]) (f19_ok  _ hr17) (.k (.c rfl) .z) ⟨[(0,b_0)],5⟩) (cjC (@Eq.refl AV (E_GConsort a0)) (cjC (f14_ok a0 _ hr18 ⟨[(0,b_0)],5⟩) (cjC (hc19) (cjC (Eq.refl true) (cjC (Eq.refl true) (cjC (APure.co (ok := fun _ => false) (π := id) (args := [.nilp]) (f24_ok  _ hr20) (.k (.c rfl) .z) ⟨[(0,b_0)],5⟩) (cjC (@Eq.refl AV (E_GConsort a0)) (cjC (Eq.refl true) (cjC (f14_ok a0 _ hr21 ⟨[(0,b_0)],5⟩) (cjC (Eq.refl true) (cjC (hc22) (cjC (Eq.refl false) (cjC (Eq.refl false) (cjC (Eq.refl false) (cj1 (Eq.refl false))))))))))))))))) (kj3 false rfl)
        ·replace hj3 := Option.some.inj hj3; subst hj3
         exact yun1z (c5 53) [[],[0],[],[0,1,2],[0,1,2,3],[0,1,2,3,4],[0,1,2,3,4,5],[0,1,2,3,4,5,6],[0,1,2,3,4,5],[0,1,2,3,4,5,6,7,8],[0,1,2,3,4,5,6,7,8,9],[0,1,2,3,4,5,6,7,8,9,10],[0,1,2,3,4,5,6,7,8,9,10,11],[0,1,2,3,4,5,6,7,8,9,10,11,12],[0,1,2,3,4,5,6,7,8,9,10,11,12],[0,1,2,3,4,5,6,7,8,9,10,11,12,14],[0,1,2,3,4,5,6,7,8,9,10,11,12,13,14,15],[0,1,2,3,4,5,6,7,8,9,10,11,12,13,14,15,16],[0,1,2,3,4,5,6,7,8,9,10,11,12,13,14,15,16,17],[0,1,2,3,4,5,6,7,8,9,10,11,12,13,14,15,16,17,18],[0,1,2,3,4,5,6,7,8,9,10,11,12,13,14,15,16,17,18,19],[0,1,2,3,4,5,6,7,8,9,10,11,12,13,14,15,16,17,18,19,20]] [.light 0 false,.light 2 true,.heavy 1 [2],.heavy 3 [],.light 4 false,.light 5 false,.light 6 false,.light 8 true,.heavy 7 [8],.heavy 9 [],.light 10 false,.light 11 false,.light 12 false,.light 13 true,.light 14 false,.heavy 15 [13],.heavy 16 [],.light 17 false,.light 18 false,.heavy 19 [],.light 20 false,.light 21 false] [{},{},{ c := some (.i r17,⟨[(0,b_0)],5⟩) },{ c := some (.i r18,⟨[(0,b_0)],5⟩) },{},{},{ g := false },{ g := false },{ g := false },{ g := false },{ g := false },{},{},{ g := false },{ g := false },{ g := false },{ g := false },{},{},{ g := false }] [2] [.bool false] ⟨[],5⟩ _ (by kernel_rfl) (cjC (APure.co (ok := fun _ => false) (π := id) (args := [.nilp]) (f19_ok  _ hr17) (.k (.c rfl) .z) ⟨[(0,b_0)],5⟩) (cjC (@Eq.refl AV (E_GConsort a0)) (cjC (f14_ok a0 _ hr18 ⟨[(0,b_0)],5⟩) (cjC (hc19) (cjC (Eq.refl false) (cjC (Eq.refl false) (cjC (Eq.refl false) (cjC (Eq.refl false) (cjC (Eq.refl false) (cjC (Eq.refl false) (cjC (Eq.refl false) (cjC (Eq.refl false) (cj1 (Eq.refl false)))))))))))))) (kj3 false rfl)
       ·rintro _ rfl
        refine run_t (by kernel_rfl) ?_
        replace h := Option.some.inj h; subst h
        exact fin_r (by kernel_rfl) rfl
  ·replace h := elimR h
   let v_1 : AV := .ms 3 0 r4b.2.length
   let w_0 : AV := .agg [.i 0,.i 0,.i r4b.1,.bool true,v_1,.i 0,.i 0,.i 0,.ms 5 0 ([] : List GCLive).length,.fn 31 [],.ms 4 0 ([] : List GTake).length]
   let b_1 : Blk := .cells 7 (([] : List GCLive).map E_GCLive)
   let b_2 : Blk := .cells 5 (([] : List GTake).map E_GTake)
   let b_3 : Blk := .cells 3 (r4b.2.map E_GCDesk)
   let s_0 : St := ⟨[(5,b_1),(4,b_2),(3,b_3),(2,.cells 11 [w_0]),(0,b_0)],6⟩
   refine run1z (c5 12) [{},{ c := some (.tup [.mp 2 0 0,.i 0],s_0) }] [1,3,4] [.mp 0 0 0,.mp 2 0 0,.i 0] s_0 _ (by kernel_rfl) (cj1 (callF (f11_ok a0 (.inr r4b) hr4) [] [(5,4),(4,3),(3,2),(2,1)] [0] [E_GConsort a0] ⟨[(0,b_0)],1⟩ (.tup [.mp 2 0 0,.i 0]) s_0 (by kernel_rfl) (.k (.c (cl_GConsort a0)) .z) (.t (.k (.mp rfl rfl) (.k (.c rfl) .z))) .z (.d (x' := b_1) rfl (by kernel_rfl) (.cells (.r (cleanMap _ _ cl_GCLive))) (.d (x' := b_2) rfl (by kernel_rfl) (.cells (.r (cleanMap _ _ cl_GTake))) (.d (x' := b_3) rfl (by kernel_rfl) (.cells (.r (cleanMap _ _ cl_GCDesk))) (.d (x' := .cells 11 [.agg [.i 0,.i 0,.i r4b.1,.bool true,.ms 2 0 r4b.2.length,.i 0,.i 0,.i 0,.ms 4 0 ([] : List GCLive).length,.fn 31 [],.ms 3 0 ([] : List GTake).length]]) rfl (by kernel_rfl) (.cells (.k (.a (.k (.c rfl) (.k (.c rfl) (.k (.c rfl) (.k (.c rfl) (.k (.ms rfl rfl) (.k (.c rfl) (.k (.c rfl) (.k (.c rfl) (.k (.ms rfl rfl) (.k (.c rfl) (.k (.ms rfl rfl) .z)))))))))))) .z)) (.f rfl (by kernel_rfl) .z))))))) ?_
   refine run_s (c5 13) (c5 20) (by kernel_rfl) ?_
   refine run1z (c5 15) [] [1,3,18] [.mp 0 0 0,.mp 2 0 0,.bool false] s_0 _ (by kernel_rfl) cj0 ?_
   refine run_cF 18 (c5 16) (c5 19) false rfl (by kernel_rfl) (by kernel_rfl) ?_
   refine run_k (by kernel_rfl) ?_
   refine thenN ?_
   obtain ⟨r27,hr27,h⟩ := bindE h
   let v_2 : AV := .ms 22 0 r27.2.2.2.2.2.2.2.1.length
   let v_3 : AV := .ms 23 0 r27.2.2.2.2.2.2.2.2.length
   let v_4 : AV := .sl false (r27.1.map E_GFrame)
   let v_5 : AV := .ms 3 0 r27.2.2.2.2.2.1.length
   let v_6 : AV := .ms 1 0 r27.2.2.2.2.2.1.length
   let v_7 : AV := .i r27.2.2.2.2.2.2.1
   let v_8 : AV := .bool r27.2.2.2.2.1
   let v_9 : AV := .i r27.2.2.2.1
   let w_1 : AV := .agg [.i r27.2.2.1,v_9,.i r4b.1,v_8,v_5,.i 0,.i 0,v_7,v_2,.fn 31 [],v_3]
   let b_4 : Blk := .cells 7 (r27.2.2.2.2.2.2.2.1.map E_GCLive)
   let b_5 : Blk := .cells 5 (r27.2.2.2.2.2.2.2.2.map E_GTake)
   let b_6 : Blk := .cells 3 (r27.2.2.2.2.2.1.map E_GCDesk)
   let s_1 : St := ⟨[(23,b_5),(22,b_4),(3,b_6),(2,.cells 11 [w_1]),(0,b_0)],24⟩
   refine run1z (c5 22) [{},{ c := some (.tup [v_4,.bool r27.2.1],s_1) }] [1,3,5,6] [.mp 0 0 0,.mp 2 0 0,v_4,.bool r27.2.1] s_1 _ (by kernel_rfl) (cj1 (callF (f16_1_ok (⟨(⟨0⟩ : GCClock),0,r4b.1,true,r4b.2,0,0,0,(⟨([] : List GCLive)⟩ : GCShelf_live),([] : List GTake)⟩ : GCPlayer) _ hr27) [(0,2),(1,3),(2,5),(3,4)] [(23,21),(22,20),(3,1),(2,0)] [0] [.mp 2 0 0] s_0 (.tup [v_4,.bool r27.2.1]) s_1 (by kernel_rfl) (.k (.mp rfl rfl) .z) (.t (.k (.c (cleanMap _ _ cl_GFrame)) (.k (.c rfl) .z))) (.k rfl (.cells (.r (cleanMap _ _ cl_GTake))) (.k rfl (.cells (.r (cleanMap _ _ cl_GCLive))) (.k rfl (.cells (.r (cleanMap _ _ cl_GCDesk))) (.k rfl (.cells (.k (.a (.k (.c rfl) (.k (.c rfl) (.k (.c rfl) (.k (.c rfl) (.k (.ms rfl rfl) (.k (.c rfl) (.k (.c rfl) (.k (.c rfl) (.k (.ms rfl rfl) (.k (.c rfl) (.k (.ms rfl rfl) .z)))))))))))) .z)) .z)))) (.d (x' := b_5) rfl (by kernel_rfl) (.cells (.r (cleanMap _ _ cl_GTake))) (.d (x' := b_4) rfl (by kernel_rfl) (.cells (.r (cleanMap _ _ cl_GCLive))) (.d (x' := b_6) rfl (by kernel_rfl) (.cells (.r (cleanMap _ _ cl_GCDesk))) (.d (x' := .cells 11 [.agg [.i r27.2.2.1,v_9,.i r4b.1,v_8,v_6,.i 0,.i 0,v_7,.ms 20 0 r27.2.2.2.2.2.2.2.1.length,.fn 31 [],.ms 21 0 r27.2.2.2.2.2.2.2.2.length]]) rfl (by kernel_rfl) (.cells (.k (.a (.k (.c rfl) (.k (.c rfl) (.k (.c rfl) (.k (.c rfl) (.k (.ms rfl rfl) (.k (.c rfl) (.k (.c rfl) (.k (.c rfl) (.k (.ms rfl rfl) (.k (.c rfl) (.k (.ms rfl rfl) .z)))))))))))) .z)) (.f rfl (by kernel_rfl) .z))))))) ?_
   refine run_s (c5 23) (c5 30) (by kernel_rfl) ?_
   obtain ⟨j4_37,hj4,h⟩ := bindE h
   let s_2 : St := ⟨[(23,b_5),(22,b_4),(3,b_6),(2,.cells 11 [w_1]),(0,b_0)],25⟩
   refine run_gq (c5 25) (fun (j4_37 : Bool) => (zipE [1,3,5,37] [.mp 0 0 0,.mp 2 0 0,v_4,.bool j4_37])) (fun (j4_37 : Bool) => s_2) (fun j => j4_37 = j) (fun kj4 => ?_) ?_
   ·rcases iteE hj4 with ⟨hc28,hj4⟩ | ⟨hc28,hj4⟩
    ·replace hj4 := Option.some.inj hj4; subst hj4
     exact run1z (c5 25) [{},{},{},{ g := false },{ g := false },{ g := false },{ k := 1,b := true },{},{ g := false },{ g := false },{ g := false },{ g := false }] [1,3,5,37] [.mp 0 0 0,.mp 2 0 0,v_4,.bool true] s_1 _ (by kernel_rfl) (cjC (hc28) (cjC (hc28) (cjC (hc28) (cjC (hc28) (cjC (Eq.refl true) (cjC (Eq.refl true) (cjC (Eq.refl true) (cj1 (Eq.refl true))))))))) (run_i 25 [] [1,3,5,37] [.mp 0 0 0,.mp 2 0 0,v_4,.bool true] (kj4 true rfl) (by intro i e; cases e <;> exact Nat.le_of_ble_eq_true rfl) (by kernel_rfl) (by kernel_rfl) (by kernel_rfl) (.k (.mp rfl rfl) (.k (.mp rfl rfl) (.k (.c (cleanMap _ _ cl_GFrame)) (.k (.c rfl) .z)))) (.k rfl (.cells (.r (cleanMap _ _ cl_GTake))) (.k rfl (.cells (.r (cleanMap _ _ cl_GCLive))) (.k rfl (.cells (.r (cleanMap _ _ cl_GCDesk))) (.k rfl (.cells (.k (.a (.k (.c rfl) (.k (.c rfl) (.k (.c rfl) (.k (.c rfl) (.k (.ms rfl rfl) (.k (.c rfl) (.k (.c rfl) (.k (.c rfl) (.k (.ms rfl rfl) (.k (.c rfl) (.k (.ms rfl rfl) .z)))))))))))) .z)) (.k rfl (.cells (.k (.c (cl_GConsort a0)) .z)) .z))))))
    ·obtain ⟨r29,hr29,hj4⟩ := bindE hj4
     rcases iteE hj4 with ⟨hc30,hj4⟩ | ⟨hc30,hj4⟩
     ·replace hj4 := Option.some.inj hj4; subst hj4
      exact run1z (c5 25) [{},{},{},{},{ c := some (.bool r29,s_1) },{},{ k := 1,b := false },{},{ g := false },{ g := false },{ g := false },{ g := false },{ k := 1,b := true }] [1,3,5,37] [.mp 0 0 0,.mp 2 0 0,v_4,.bool true] s_1 _ (by kernel_rfl) (cjC (hc28) (cjC (hc28) (cjC (callF (f22_1_ok (⟨(⟨r27.2.2.1⟩ : GCClock),r27.2.2.2.1,r4b.1,r27.2.2.2.2.1,r27.2.2.2.2.2.1,0,0,r27.2.2.2.2.2.2.1,(⟨r27.2.2.2.2.2.2.2.1⟩ : GCShelf_live),r27.2.2.2.2.2.2.2.2⟩ : GCPlayer) _ hr29) [(0,2),(1,3),(2,22),(3,23)] [(23,3),(22,2),(3,1),(2,0)] [0] [.mp 2 0 0] s_1 (.bool r29) s_1 (by kernel_rfl) (.k (.mp rfl rfl) .z) (.c rfl) (.k rfl (.cells (.r (cleanMap _ _ cl_GTake))) (.k rfl (.cells (.r (cleanMap _ _ cl_GCLive))) (.k rfl (.cells (.r (cleanMap _ _ cl_GCDesk))) (.k rfl (.cells (.k (.a (.k (.c rfl) (.k (.c rfl) (.k (.c rfl) (.k (.c rfl) (.k (.ms rfl rfl) (.k (.c rfl) (.k (.c rfl) (.k (.c rfl) (.k (.ms rfl rfl) (.k (.c rfl) (.k (.ms rfl rfl) .z)))))))))))) .z)) .z)))) (.d (x' := b_5) rfl (by kernel_rfl) (.cells (.r (cleanMap _ _ cl_GTake))) (.d (x' := b_4) rfl (by kernel_rfl) (.cells (.r (cleanMap _ _ cl_GCLive))) (.d (x' := b_6) rfl (by kernel_rfl) (.cells (.r (cleanMap _ _ cl_GCDesk))) (.d (x' := .cells 11 [.agg [.i r27.2.2.1,v_9,.i r4b.1,v_8,v_6,.i 0,.i 0,v_7,.ms 2 0 r27.2.2.2.2.2.2.2.1.length,.fn 31 [],.ms 3 0 r27.2.2.2.2.2.2.2.2.length]]) rfl (by kernel_rfl) (.cells (.k (.a (.k (.c rfl) (.k (.c rfl) (.k (.c rfl) (.k (.c rfl) (.k (.ms rfl rfl) (.k (.c rfl) (.k (.c rfl) (.k (.c rfl) (.k (.ms rfl rfl) (.k (.c rfl) (.k (.ms rfl rfl) .z)))))))))))) .z)) (.f rfl (by kernel_rfl) .z)))))) (cjC (hc28) (cjC (hc28) (cjC (hc30) (cjC (hc30) (cjC (hc30) (cjC (hc30) (cj1 (hc30))))))))))) (run_i 25 [] [1,3,5,37] [.mp 0 0 0,.mp 2 0 0,v_4,.bool true] (kj4 true rfl) (by intro i e; cases e <;> exact Nat.le_of_ble_eq_true rfl) (by kernel_rfl) (by kernel_rfl) (by kernel_rfl) (.k (.mp rfl rfl) (.k (.mp rfl rfl) (.k (.c (cleanMap _ _ cl_GFrame)) (.k (.c rfl) .z)))) (.k rfl (.cells (.r (cleanMap _ _ cl_GTake))) (.k rfl (.cells (.r (cleanMap _ _ cl_GCLive))) (.k rfl (.cells (.r (cleanMap _ _ cl_GCDesk))) (.k rfl (.cells (.k (.a (.k (.c rfl) (.k (.c rfl) (.k (.c rfl) (.k (.c rfl) (.k (.ms rfl rfl) (.k (.c rfl) (.k (.c rfl) (.k (.c rfl) (.k (.ms rfl rfl) (.k (.c rfl) (.k (.ms rfl rfl) .z)))))))))))) .z)) (.k rfl (.cells (.k (.c (cl_GConsort a0)) .z)) .z))))))
     ·obtain ⟨r31,hr31,hj4⟩ := bindE hj4
      replace hj4 := Option.some.inj hj4; subst hj4
      let w_2 : AV := .agg [.i r27.2.2.1,v_9,.i r4b.1,v_8,v_6,.i 0,.i 0,v_7,.ms 2 0 r27.2.2.2.2.2.2.2.1.length,.fn 31 [],.ms 3 0 r27.2.2.2.2.2.2.2.2.length]
      exact run1z (c5 25) [{},{},{},{},{ c := some (.bool r29,s_1) },{},{ k := 1,b := false },{},{},{ c := some (.sl false (r31.map E_GVoice),s_2) },{ k := 1,n := r31.length },{},{ k := 1,b := false }] [1,3,5,37] [.mp 0 0 0,.mp 2 0 0,v_4,.bool (decide ((r31.length : Int) ≠ 0))] s_2 _ (by kernel_rfl) (cjC (hc28) (cjC (hc28) (cjC (callF (f22_1_ok (⟨(⟨r27.2.2.1⟩ : GCClock),r27.2.2.2.1,r4b.1,r27.2.2.2.2.1,r27.2.2.2.2.2.1,0,0,r27.2.2.2.2.2.2.1,(⟨r27.2.2.2.2.2.2.2.1⟩ : GCShelf_live),r27.2.2.2.2.2.2.2.2⟩ : GCPlayer) _ hr29) [(0,2),(1,3),(2,22),(3,23)] [(23,3),(22,2),(3,1),(2,0)] [0] [.mp 2 0 0] s_1 (.bool r29) s_1 (by kernel_rfl) (.k (.mp rfl rfl) .z) (.c rfl) (.k rfl (.cells (.r (cleanMap _ _ cl_GTake))) (.k rfl (.cells (.r (cleanMap _ _ cl_GCLive))) (.k rfl (.cells (.r (cleanMap _ _ cl_GCDesk))) (.k rfl (.cells (.k (.a (.k (.c rfl) (.k (.c rfl) (.k (.c rfl) (.k (.c rfl) (.k (.ms rfl rfl) (.k (.c rfl) (.k (.c rfl) (.k (.c rfl) (.k (.ms rfl rfl) (.k (.c rfl) (.k (.ms rfl rfl) .z)))))))))))) .z)) .z)))) (.d (x' := b_5) rfl (by kernel_rfl) (.cells (.r (cleanMap _ _ cl_GTake))) (.d (x' := b_4) rfl (by kernel_rfl) (.cells (.r (cleanMap _ _ cl_GCLive))) (.d (x' := b_6) rfl (by kernel_rfl) (.cells (.r (cleanMap _ _ cl_GCDesk))) (.d (x' := .cells 11 [w_2]) rfl (by kernel_rfl) (.cells (.k (.a (.k (.c rfl) (.k (.c rfl) (.k (.c rfl) (.k (.c rfl) (.k (.ms rfl rfl) (.k (.c rfl) (.k (.c rfl) (.k (.c rfl) (.k (.ms rfl rfl) (.k (.c rfl) (.k (.ms rfl rfl) .z)))))))))))) .z)) (.f rfl (by kernel_rfl) .z)))))) (cjC (hc28) (cjC (hc28) (cjC (hc30) (cjC (hc30) (cjC (callF (f23_1_ok (⟨(⟨r27.2.2.1⟩ : GCClock),r27.2.2.2.1,r4b.1,r27.2.2.2.2.1,r27.2.2.2.2.2.1,0,0,r27.2.2.2.2.2.2.1,(⟨r27.2.2.2.2.2.2.2.1⟩ : GCShelf_live),r27.2.2.2.2.2.2.2.2⟩ : GCPlayer) _ hr31) [(0,2),(1,3),(2,22),(3,23)] [(23,3),(22,2),(3,1),(2,0)] [0] [.mp 2 0 0] s_1 (.sl false (r31.map E_GVoice)) s_2 (by kernel_rfl) (.k (.mp rfl rfl) .z) (.c (cleanMap _ _ cl_GVoice)) (.k rfl (.cells (.r (cleanMap _ _ cl_GTake))) (.k rfl (.cells (.r (cleanMap _ _ cl_GCLive))) (.k rfl (.cells (.r (cleanMap _ _ cl_GCDesk))) (.k rfl (.cells (.k (.a (.k (.c rfl) (.k (.c rfl) (.k (.c rfl) (.k (.c rfl) (.k (.ms rfl rfl) (.k (.c rfl) (.k (.c rfl) (.k (.c rfl) (.k (.ms rfl rfl) (.k (.c rfl) (.k (.ms rfl rfl) .z)))))))))))) .z)) .z)))) (.d (x' := b_5) rfl (by kernel_rfl) (.cells (.r (cleanMap _ _ cl_GTake))) (.d (x' := b_4) rfl (by kernel_rfl) (.cells (.r (cleanMap _ _ cl_GCLive))) (.d (x' := b_6) rfl (by kernel_rfl) (.cells (.r (cleanMap _ _ cl_GCDesk))) (.d (x' := .cells 11 [w_2]) rfl (by kernel_rfl) (.cells (.k (.a (.k (.c rfl) (.k (.c rfl) (.k (.c rfl) (.k (.c rfl) (.k (.ms rfl rfl) (.k (.c rfl) (.k (.c rfl) (.k (.c rfl) (.k (.ms rfl rfl) (.k (.c rfl) (.k (.ms rfl rfl) .z)))))))))))) .z)) (.f rfl (by kernel_rfl) .z)))))) (cjC (hc30) (cjC (mapLen r31 E_GVoice) (cjC (hc30) (cj1 (hc30))))))))))))) (kj4 (decide ((r31.length : Int) ≠ 0)) rfl)
   ·rintro _ rfl
    rcases iteE h with ⟨hc32,h⟩ | ⟨hc32,h⟩
    ·refine run_cT 37 (c5 26) (c5 29) j4_37 hc32 (by kernel_rfl) (by kernel_rfl) ?_
     refine run1z (c5 28) [] [2] [.bool false] ⟨[],25⟩ _ (by kernel_rfl) cj0 ?_
     refine run_t (by kernel_rfl) ?_
     refine thenR ?_
     replace h := Option.some.inj h; subst h
     exact fin_r (by kernel_rfl) rfl
    ·refine run_cF 37 (c5 26) (c5 29) j4_37 hc32 (by kernel_rfl) (by kernel_rfl) ?_
     refine run_k (by kernel_rfl) ?_
     refine thenN ?_
     refine run_s (c5 31) (c5 51) (by kernel_rfl) ?_
     refine run1z (c5 33) [] [1,3,5,7] [.mp 0 0 0,.mp 2 0 0,v_4,.i 1] s_2 _ (by kernel_rfl) cj0 ?_
     obtain ⟨ol5x,hll5x,h⟩ := bindE h
     refine run_tq (fun (_ : Unit) => (zipE [1,3] [.mp 0 0 0,.mp 2 0 0])) (fun (_ : Unit) => s_2) (fun j => ol5x = .inl j) (fun kl5 => ?_) ?_
     ·refine run_b 0 (c5 34) (by kernel_rfl) ?_
      refine run_l (c5 35) _ hll5x (fun (l5_7 : Int) => (zipE [1,3,5,7] [.mp 0 0 0,.mp 2 0 0,v_4,.i l5_7])) (fun (l5_7 : Int) => s_2) [] (by intro i e; cases e <;> exact Nat.le_of_ble_eq_true rfl) (by kernel_rfl) (mkInto (ks := [1,3,5,7]) (ys := [.mp 0 0 0,.mp 2 0 0,v_4,.i 1]) (by kernel_rfl) (by kernel_rfl) (.k (.mp rfl rfl) (.k (.mp rfl rfl) (.k (.c (cleanMap _ _ cl_GFrame)) (.k (.c rfl) .z)))) (.k rfl (.cells (.r (cleanMap _ _ cl_GTake))) (.k rfl (.cells (.r (cleanMap _ _ cl_GCLive))) (.k rfl (.cells (.r (cleanMap _ _ cl_GCDesk))) (.k rfl (.cells (.k (.a (.k (.c rfl) (.k (.c rfl) (.k (.c rfl) (.k (.c rfl) (.k (.ms rfl rfl) (.k (.c rfl) (.k (.c rfl) (.k (.c rfl) (.k (.ms rfl rfl) (.k (.c rfl) (.k (.ms rfl rfl) .z)))))))))))) .z)) (.k rfl (.cells (.k (.c (cl_GConsort a0)) .z)) .z)))))) ?_
      rintro l5_7 out hl5 rl5
      refine run_s (c5 36) (c5 41) (by kernel_rfl) ?_
      refine run1z (c5 38) [{},{},{ k := 1,n := r27.1.length }] [1,3,5,7,41] [.mp 0 0 0,.mp 2 0 0,v_4,.i l5_7,.bool (decide (l5_7 < (r27.1.length : Int)))] s_2 _ (by kernel_rfl) (cj1 (mapLen r27.1 E_GFrame)) ?_
      rcases iteE hl5 with ⟨hc33,hl5⟩ | ⟨hc33,hl5⟩
      ·refine run_cT 41 (c5 39) (c5 40) (decide (l5_7 < (r27.1.length : Int))) hc33 (by kernel_rfl) (by kernel_rfl) ?_
       refine run_k (by kernel_rfl) ?_
       refine thenN ?_
       refine run_s (c5 42) (c5 50) (by kernel_rfl) ?_
       refine run_b 1 (c5 43) (by kernel_rfl) ?_
       obtain ⟨y34,hy34,hl5⟩ := bindE hl5
       obtain ⟨y35,hy35,hl5⟩ := bindE hl5
       refine yun1z (c5 45) [[],[],[0,1],[0,1,2],[0,1,2,3],[],[],[6],[5,6,7],[5,6,7,8],[5,6,7,8,9],[0,1,2,3,4,5,6,7,8,9,10]] [.light 0 false,.light 1 false,.light 2 false,.light 3 false,.light 4 false,.light 5 false,.light 6 false,.light 7 false,.light 8 false,.light 9 false,.light 10 false,.light 11 false] [{},{},{ k := 1,x := E_GFrame y34 },{},{},{},{},{},{ k := 1,x := E_GFrame y35 }] [1,3,5,7,55] [.mp 0 0 0,.mp 2 0 0,v_4,.i l5_7,.bool (decide (y34.time ≤ y35.time))] s_2 _ (by kernel_rfl) (cjC ((ixE hy34).1) (cjC (mapGet E_GFrame (ixE hy34).2) (cjC ((ixE hy35).1) (cj1 (mapGet E_GFrame (ixE hy35).2))))) ?_
       rcases iteE hl5 with ⟨hc36,hl5⟩ | ⟨hc36,hl5⟩
       ·refine run_cT 55 (c5 46) (c5 49) (decide (y34.time ≤ y35.time)) hc36 (by kernel_rfl) (by kernel_rfl) ?_
        refine run1z (c5 48) [] [2] [.bool false] ⟨[],25⟩ _ (by kernel_rfl) cj0 ?_
        replace hl5 := Option.some.inj hl5; subst hl5
        have hr := rl5 _ rfl
        subst hr
        replace h := elimR h
        refine run_t (by kernel_rfl) ?_
        refine inbR ?_
        refine thenR ?_
        refine ⟨⟨_,rfl⟩,?_⟩
        refine inbR ?_
        refine thenR ?_
        replace h := Option.some.inj h; subst h
        exact fin_r (by kernel_rfl) rfl
       ·refine run_cF 55 (c5 46) (c5 49) (decide (y34.time ≤ y35.time)) hc36 (by kernel_rfl) (by kernel_rfl) ?_
        refine run_k (by kernel_rfl) ?_
        refine inbN ?_
        refine thenN ?_
        refine run0z [] [1,3,5,7] [.mp 0 0 0,.mp 2 0 0,v_4,.i (wr (l5_7 + 1))] s_2 _ (by kernel_rfl) cj0 ?_
        replace hl5 := Option.some.inj hl5; subst hl5
        exact ⟨_,rfl,pi [],mkInto (ks := [1,3,5,7]) (ys := [.mp 0 0 0,.mp 2 0 0,v_4,.i (wr (l5_7 + 1))]) (by kernel_rfl) (by kernel_rfl) (.k (.mp rfl rfl) (.k (.mp rfl rfl) (.k (.c (cleanMap _ _ cl_GFrame)) (.k (.c rfl) .z)))) (.k rfl (.cells (.r (cleanMap _ _ cl_GTake))) (.k rfl (.cells (.r (cleanMap _ _ cl_GCLive))) (.k rfl (.cells (.r (cleanMap _ _ cl_GCDesk))) (.k rfl (.cells (.k (.a (.k (.c rfl) (.k (.c rfl) (.k (.c rfl) (.k (.c rfl) (.k (.ms rfl rfl) (.k (.c rfl) (.k (.c rfl) (.k (.c rfl) (.k (.ms rfl rfl) (.k (.c rfl) (.k (.ms rfl rfl) .z)))))))))))) .z)) (.k rfl (.cells (.k (.c (cl_GConsort a0)) .z)) .z)))))⟩
      ·refine run_cF 41 (c5 39) (c5 40) (decide (l5_7 < (r27.1.length : Int))) hc33 (by kernel_rfl) (by kernel_rfl) ?_
       replace hl5 := Option.some.inj hl5; subst hl5
       have hr := rl5 _ rfl
       subst hr
       refine awp_p [1,3] [23,22,3,2,0] (zipE [1,3] [.mp 0 0 0,.mp 2 0 0]) s_2 (by kernel_rfl) (?_)
       refine run_e 0 (by kernel_rfl) ?_
       refine thenE ?_
       refine ⟨⟨_,rfl⟩,?_⟩
       refine inbE ?_
       exact kl5 () rfl
     ·rintro ⟨⟩ rfl
      replace h := elimL h
      refine thenN ?_
      obtain ⟨j6_2,hj6,h⟩ := bindE h
      refine run_gq (c5 53) (fun (j6_2 : Bool) => (zipE [2] [.bool j6_2])) (fun (j6_2 : Bool) => ⟨[],28⟩) (fun j => j6_2 = j) (fun kj6 => ?_) ?_
      ·obtain ⟨r37,hr37,hj6⟩ := bindE hj6
       obtain ⟨r38,hr38,hj6⟩ := bindE hj6
       rcases iteE hj6 with ⟨hc39,hj6⟩ | ⟨hc39,hj6⟩
       ·obtain ⟨r40,hr40,hj6⟩ := bindE hj6
        obtain ⟨r41,hr41,hj6⟩ := bindE hj6
        rcases iteE hj6 with ⟨hc42,hj6⟩ | ⟨hc42,hj6⟩
        ·obtain ⟨r43,hr43,hj6⟩ := bindE hj6
         obtain ⟨r44,hr44,hj6⟩ := bindE hj6
         rcases iteE hj6 with ⟨hc45,hj6⟩ | ⟨hc45,hj6⟩
         ·obtain ⟨r46,hr46,hj6⟩ := bindE hj6
          replace hj6 := Option.some.inj hj6; subst hj6
          let v_10 : AV := .ms 2 0 r27.2.2.2.2.2.2.2.1.length
          let v_12 : AV := .ms 3 0 r27.2.2.2.2.2.2.2.2.length
          let w_4 : AV := .agg [.i r27.2.2.1,v_9,.i r4b.1,v_8,v_6,.i 0,.i 0,v_7,v_10,.fn 31 [],v_12]
          let s_3 : St := ⟨[(23,b_5),(22,b_4),(3,b_6),(2,.cells 11 [w_1]),(0,b_0)],28⟩
          exact yun1z (c5 53) [[],[0],[],[0,1,2],[0,1,2,3],[0,1,2,3,4],[0,1,2,3,4,5],[0,1,2,3,4,5,6],[0,1,2,3,4,5],[0,1,2,3,4,5,6,7,8],[0,1,2,3,4,5,6,7,8,9],[0,1,2,3,4,5,6,7,8,9,10],[0,1,2,3,4,5,6,7,8,9,10,11],[0,1,2,3,4,5,6,7,8,9,10,11,12],[0,1,2,3,4,5,6,7,8,9,10,11,12],[0,1,2,3,4,5,6,7,8,9,10,11,12,14],[0,1,2,3,4,5,6,7,8,9,10,11,12,13,14,15],[0,1,2,3,4,5,6,7,8,9,10,11,12,13,14,15,16],[0,1,2,3,4,5,6,7,8,9,10,11,12,13,14,15,16,17],[0,1,2,3,4,5,6,7,8,9,10,11,12,13,14,15,16,17,18],[0,1,2,3,4,5,6,7,8,9,10,11,12,13,14,15,16,17,18,19],[0,1,2,3,4,5,6,7,8,9,10,11,12,13,14,15,16,17,18,19,20]] [.light 0 false,.light 2 true,.heavy 1 [2],.heavy 3 [],.light 4 false,.light 5 false,.light 6 false,.light 8 true,.heavy 7 [8],.heavy 9 [],.light 10 false,.light 11 false,.light 12 false,.light 13 true,.light 14 false,.heavy 15 [13],.heavy 16 [],.light 17 false,.light 18 false,.heavy 19 [],.light 20 false,.light 21 false] [{},{},{ c := some (.i r27.2.2.1,s_2) },{ c := some (.i r38,s_2) },{},{},{},{},{ c := some (v_9,s_2) },{ c := some (.i r41,s_2) },{},{},{},{},{},{ c := some (.sl false (r43.map E_GTake),s_3) },{ c := some (.bool r44,s_3) },{},{},{ c := some (.bool r46,s_3) }] [2] [.bool r46] ⟨[],28⟩ _ (by kernel_rfl) (cjC (callF (f19_1_ok (⟨(⟨r27.2.2.1⟩ : GCClock),r27.2.2.2.1,r4b.1,r27.2.2.2.2.1,r27.2.2.2.2.2.1,0,0,r27.2.2.2.2.2.2.1,(⟨r27.2.2.2.2.2.2.2.1⟩ : GCShelf_live),r27.2.2.2.2.2.2.2.2⟩ : GCPlayer) _ hr37) [(0,2),(1,3),(2,22),(3,23)] [(23,3),(22,2),(3,1),(2,0)] [0] [.mp 2 0 0] s_2 (.i r27.2.2.1) s_2 (by kernel_rfl) (.k (.mp rfl rfl) .z) (.c rfl) (.k rfl (.cells (.r (cleanMap _ _ cl_GTake))) (.k rfl (.cells (.r (cleanMap _ _ cl_GCLive))) (.k rfl (.cells (.r (cleanMap _ _ cl_GCDesk))) (.k rfl (.cells (.k (.a (.k (.c rfl) (.k (.c rfl) (.k (.c rfl) (.k (.c rfl) (.k (.ms rfl rfl) (.k (.c rfl) (.k (.c rfl) (.k (.c rfl) (.k (.ms rfl rfl) (.k (.c rfl) (.k (.ms rfl rfl) .z)))))))))))) .z)) .z)))) (.d (x' := b_5) rfl (by kernel_rfl) (.cells (.r (cleanMap _ _ cl_GTake))) (.d (x' := b_4) rfl (by kernel_rfl) (.cells (.r (cleanMap _ _ cl_GCLive))) (.d (x' := b_6) rfl (by kernel_rfl) (.cells (.r (cleanMap _ _ cl_GCDesk))) (.d (x' := .cells 11 [w_4]) rfl (by kernel_rfl) (.cells (.k (.a (.k (.c rfl) (.k (.c rfl) (.k (.c rfl) (.k (.c rfl) (.k (.ms rfl rfl) (.k (.c rfl) (.k (.c rfl) (.k (.c rfl) (.k (.ms rfl rfl) (.k (.c rfl) (.k (.ms rfl rfl) .z)))))))))))) .z)) (.f rfl (by kernel_rfl) .z)))))) (cjC (@Eq.refl AV (E_GConsort a0)) (cjC (f14_ok a0 _ hr38 s_2) (cjC (hc39) (cjC (Eq.refl true) (cjC (Eq.refl true) (cjC (callF (f24_1_ok (⟨(⟨r27.2.2.1⟩ : GCClock),r27.2.2.2.1,r4b.1,r27.2.2.2.2.1,r27.2.2.2.2.2.1,0,0,r27.2.2.2.2.2.2.1,(⟨r27.2.2.2.2.2.2.2.1⟩ : GCShelf_live),r27.2.2.2.2.2.2.2.2⟩ : GCPlayer) _ hr40) [(0,2),(1,3),(2,22),(3,23)] [(23,3),(22,2),(3,1),(2,0)] [0] [.mp 2 0 0] s_2 (.i r27.2.2.2.1) s_2 (by kernel_rfl) (.k (.mp rfl rfl) .z) (.c rfl) (.k rfl (.cells (.r (cleanMap _ _ cl_GTake))) (.k rfl (.cells (.r (cleanMap _ _ cl_GCLive))) (.k rfl (.cells (.r (cleanMap _ _ cl_GCDesk))) (.k rfl (.cells (.k (.a (.k (.c rfl) (.k (.c rfl) (.k (.c rfl) (.k (.c rfl) (.k (.ms rfl rfl) (.k (.c rfl) (.k (.c rfl) (.k (.c rfl) (.k (.ms rfl rfl) (.k (.c rfl) (.k (.ms rfl rfl) .z)))))))))))) .z)) .z)))) (.d (x' := b_5) rfl (by kernel_rfl) (.cells (.r (cleanMap _ _ cl_GTake))) (.d (x' := b_4) rfl (by kernel_rfl) (.cells (.r (cleanMap _ _ cl_GCLive))) (.d (x' := b_6) rfl (by kernel_rfl) (.cells (.r (cleanMap _ _ cl_GCDesk))) (.d (x' := .cells 11 [w_4]) rfl (by kernel_rfl) (.cells (.k (.a (.k (.c rfl) (.k (.c rfl) (.k (.c rfl) (.k (.c rfl) (.k (.ms rfl rfl) (.k (.c rfl) (.k (.c rfl) (.k (.c rfl) (.k (.ms rfl rfl) (.k (.c rfl) (.k (.ms rfl rfl) .z)))))))))))) .z)) (.f rfl (by kernel_rfl) .z)))))) (cjC (@Eq.refl AV (E_GConsort a0)) (cjC (Eq.refl true) (cjC (f14_ok a0 _ hr41 s_2) (cjC (Eq.refl true) (cjC (hc42) (cjC (Eq.refl true) (cjC (Eq.refl true) (cjC (callF (f20_1_ok (⟨(⟨r27.2.2.1⟩ : GCClock),r27.2.2.2.1,r4b.1,r27.2.2.2.2.1,r27.2.2.2.2.2.1,0,0,r27.2.2.2.2.2.2.1,(⟨r27.2.2.2.2.2.2.2.1⟩ : GCShelf_live),r27.2.2.2.2.2.2.2.2⟩ : GCPlayer) _ hr43) [(0,2),(1,3),(2,22),(3,23)] [(23,3),(22,2),(3,1),(2,0)] [0] [.mp 2 0 0] s_2 (.sl false (r43.map E_GTake)) s_3 (by kernel_rfl) (.k (.mp rfl rfl) .z) (.c (cleanMap _ _ cl_GTake)) (.k rfl (.cells (.r (cleanMap _ _ cl_GTake))) (.k rfl (.cells (.r (cleanMap _ _ cl_GCLive))) (.k rfl (.cells (.r (cleanMap _ _ cl_GCDesk))) (.k rfl (.cells (.k (.a (.k (.c rfl) (.k (.c rfl) (.k (.c rfl) (.k (.c rfl) (.k (.ms rfl rfl) (.k (.c rfl) (.k (.c rfl) (.k (.c rfl) (.k (.ms rfl rfl) (.k (.c rfl) (.k (.ms rfl rfl) .z)))))))))))) .z)) .z)))) (.d (x' := b_5) rfl (by kernel_rfl) (.cells (.r (cleanMap _ _ cl_GTake))) (.d (x' := b_4) rfl (by kernel_rfl) (.cells (.r (cleanMap _ _ cl_GCLive))) (.d (x' := b_6) rfl (by kernel_rfl) (.cells (.r (cleanMap _ _ cl_GCDesk))) (.d (x' := .cells 11 [w_4]) rfl (by kernel_rfl) (.cells (.k (.a (.k (.c rfl) (.k (.c rfl) (.k (.c rfl) (.k (.c rfl) (.k (.ms rfl rfl) (.k (.c rfl) (.k (.c rfl) (.k (.c rfl) (.k (.ms rfl rfl) (.k (.c rfl) (.k (.ms rfl rfl) .z)))))))))))) .z)) (.f rfl (by kernel_rfl) .z)))))) (cjC (@Eq.refl AV (E_GConsort a0)) (cjC (Eq.refl true) (cjC (f21_ok a0 r43 (-1) 0 _ hr44 s_3) (cjC (hc45) (cj1 (f10_ok  _ hr46 s_3))))))))))))))))))))) (kj6 r46 rfl)
         ·replace hj6 := Option.some.inj hj6; subst hj6
          let v_11 : AV := .ms 2 0 r27.2.2.2.2.2.2.2.1.length
          let v_13 : AV := .ms 3 0 r27.2.2.2.2.2.2.2.2.length
          let w_5 : AV := .agg [.i r27.2.2.1,v_9,.i r4b.1,v_8,v_6,.i 0,.i 0,v_7,v_11,.fn 31 [],v_13]
          let s_4 : St := ⟨[(23,b_5),(22,b_4),(3,b_6),(2,.cells 11 [w_1]),(0,b_0)],28⟩
          exact yun1z (c5 53) [[],[0],[],[0,1,2],[0,1,2,3],[0,1,2,3,4],[0,1,2,3,4,5],[0,1,2,3,4,5,6],[0,1,2,3,4,5],[0,1,2,3,4,5,6,7,8],[0,1,2,3,4,5,6,7,8,9],[0,1,2,3,4,5,6,7,8,9,10],[0,1,2,3,4,5,6,7,8,9,10,11],[0,1,2,3,4,5,6,7,8,9,10,11,12],[0,1,2,3,4,5,6,7,8,9,10,11,12],[0,1,2,3,4,5,6,7,8,9,10,11,12,14],[0,1,2,3,4,5,6,7,8,9,10,11,12,13,14,15],[0,1,2,3,4,5,6,7,8,9,10,11,12,13,14,15,16],[0,1,2,3,4,5,6,7,8,9,10,11,12,13,14,15,16,17],[0,1,2,3,4,5,6,7,8,9,10,11,12,13,14,15,16,17,18],[0,1,2,3,4,5,6,7,8,9,10,11,12,13,14,15,16,17,18,19],[0,1,2,3,4,5,6,7,8,9,10,11,12,13,14,15,16,17,18,19,20]] [.light 0 false,.light 2 true,.heavy 1 [2],.heavy 3 [],.light 4 false,.light 5 false,.light 6 false,.light 8 true,.heavy 7 [8],.heavy 9 [],.light 10 false,.light 11 false,.light 12 false,.light 13 true,.light 14 false,.heavy 15 [13],.heavy 16 [],.light 17 false,.light 18 false,.heavy 19 [],.light 20 false,.light 21 false] [{},{},{ c := some (.i r27.2.2.1,s_2) },{ c := some (.i r38,s_2) },{},{},{},{},{ c := some (v_9,s_2) },{ c := some (.i r41,s_2) },{},{},{},{},{},{ c := some (.sl false (r43.map E_GTake),s_4) },{ c := some (.bool r44,s_4) },{},{},{ g := false }] [2] [.bool false] ⟨[],28⟩ _ (by kernel_rfl) (cjC (callF (f19_1_ok (⟨(⟨r27.2.2.1⟩ : GCClock),r27.2.2.2.1,r4b.1,r27.2.2.2.2.1,r27.2.2.2.2.2.1,0,0,r27.2.2.2.2.2.2.1,(⟨r27.2.2.2.2.2.2.2.1⟩ : GCShelf_live),r27.2.2.2.2.2.2.2.2⟩ : GCPlayer) _ hr37) [(0,2),(1,3),(2,22),(3,23)] [(23,3),(22,2),(3,1),(2,0)] [0] [.mp 2 0 0] s_2 (.i r27.2.2.1) s_2 (by kernel_rfl) (.k (.mp rfl rfl) .z) (.c rfl) (.k rfl (.cells (.r (cleanMap _ _ cl_GTake))) (.k rfl (.cells (.r (cleanMap _ _ cl_GCLive))) (.k rfl (.cells (.r (cleanMap _ _ cl_GCDesk))) (.k rfl (.cells (.k (.a (.k (.c rfl) (.k (.c rfl) (.k (.c rfl) (.k (.c rfl) (.k (.ms rfl rfl) (.k (.c rfl) (.k (.c rfl) (.k (.c rfl) (.k (.ms rfl rfl) (.k (.c rfl) (.k (.ms rfl rfl) .z)))))))))))) .z)) .z)))) (.d (x' := b_5) rfl (by kernel_rfl) (.cells (.r (cleanMap _ _ cl_GTake))) (.d (x' := b_4) rfl (by kernel_rfl) (.cells (.r (cleanMap _ _ cl_GCLive))) (.d (x' := b_6) rfl (by kernel_rfl) (.cells (.r (cleanMap _ _ cl_GCDesk))) (.d (x' := .cells 11 [w_5]) rfl (by kernel_rfl) (.cells (.k (.a (.k (.c rfl) (.k (.c rfl) (.k (.c rfl) (.k (.c rfl) (.k (.ms rfl rfl) (.k (.c rfl) (.k (.c rfl) (.k (.c rfl) (.k (.ms rfl rfl) (.k (.c rfl) (.k (.ms rfl rfl) .z)))))))))))) .z)) (.f rfl (by kernel_rfl) .z)))))) (cjC (@Eq.refl AV (E_GConsort a0)) (cjC (f14_ok a0 _ hr38 s_2) (cjC (hc39) (cjC (Eq.refl true) (cjC (Eq.refl true) (cjC (callF (f24_1_ok (⟨(⟨r27.2.2.1⟩ : GCClock),r27.2.2.2.1,r4b.1,r27.2.2.2.2.1,r27.2.2.2.2.2.1,0,0,r27.2.2.2.2.2.2.1,(⟨r27.2.2.2.2.2.2.2.1⟩ : GCShelf_live),r27.2.2.2.2.2.2.2.2⟩ : GCPlayer) _ hr40) [(0,2),(1,3),(2,22),(3,23)] [(23,3),(22,2),(3,1),(2,0)] [0] [.mp 2 0 0] s_2 (.i r27.2.2.2.1) s_2 (by kernel_rfl) (.k (.mp rfl rfl) .z) (.c rfl) (.k rfl (.cells (.r (cleanMap _ _ cl_GTake))) (.k rfl (.cells (.r (cleanMap _ _ cl_GCLive))) (.k rfl (.cells (.r (cleanMap _ _ cl_GCDesk))) (.k rfl (.cells (.k (.a (.k (.c rfl) (.k (.c rfl) (.k (.c rfl) (.k (.c rfl) (.k (.ms rfl rfl) (.k (.c rfl) (.k (.c rfl) (.k (.c rfl) (.k (.ms rfl rfl) (.k (.c rfl) (.k (.ms rfl rfl) .z)))))))))))) .z)) .z)))) (.d (x' := b_5) rfl (by kernel_rfl) (.cells (.r (cleanMap _ _ cl_GTake))) (.d (x' := b_4) rfl (by kernel_rfl) (.cells (.r (cleanMap _ _ cl_GCLive))) (.d (x' := b_6) rfl (by kernel_rfl) (.cells (.r (cleanMap _ _ cl_GCDesk))) (.d (x' := .cells 11 [w_5]) rfl (by kernel_rfl) (.cells (.k (.a (.k (.c rfl) (.k (.c rfl) (.k (.c rfl) (.k (.c rfl) (.k (.ms rfl rfl) (.k (.c rfl) (.k (.c rfl) (.k (.c rfl) (.k (.ms rfl rfl) (.k (.c rfl) (.k (.ms rfl rfl) .z)))))))))))) .z)) (.f rfl (by kernel_rfl) .z)))))) (cjC (@Eq.refl AV (E_GConsort a0)) (cjC (Eq.refl true) (cjC (f14_ok a0 _ hr41 s_2) (cjC (Eq.refl true) (cjC (hc42) (cjC (Eq.refl true) (cjC (Eq.refl true) (cjC (callF (f20_1_ok (⟨(⟨r27.2.2.1⟩ : GCClock),r27.2.2.2.1,r4b.1,r27.2.2.2.2.1,r27.2.2.2.2.2.1,0,0,r27.2.2.2.2.2.2.1,(⟨r27.2.2.2.2.2.2.2.1⟩ : GCShelf_live),r27.2.2.2.2.2.2.2.2⟩ : GCPlayer) _ hr43) [(0,2),(1,3),(2,22),(3,23)] [(23,3),(22,2),(3,1),(2,0)] [0] [.mp 2 0 0] s_2 (.sl false (r43.map E_GTake)) s_4 (by kernel_rfl) (.k (.mp rfl rfl) .z) (.c (cleanMap _ _ cl_GTake)) (.k rfl (.cells (.r (cleanMap _ _ cl_GTake))) (.k rfl (.cells (.r (cleanMap _ _ cl_GCLive))) (.k rfl (.cells (.r (cleanMap _ _ cl_GCDesk))) (.k rfl (.cells (.k (.a (.k (.c rfl) (.k (.c rfl) (.k (.c rfl) (.k (.c rfl) (.k (.ms rfl rfl) (.k (.c rfl) (.k (.c rfl) (.k (.c rfl) (.k (.ms rfl rfl) (.k (.c rfl) (.k (.ms rfl rfl) .z)))))))))))) .z)) .z)))) (.d (x' := b_5) rfl (by kernel_rfl) (.cells (.r (cleanMap _ _ cl_GTake))) (.d (x' := b_4) rfl (by kernel_rfl) (.cells (.r (cleanMap _ _ cl_GCLive))) (.d (x' := b_6) rfl (by kernel_rfl) (.cells (.r (cleanMap _ _ cl_GCDesk))) (.d (x' := .cells 11 [w_5]) rfl (by kernel_rfl) (.cells (.k (.a (.k (.c rfl) (.k (.c rfl) (.k (.c rfl) (.k (.c rfl) (.k (.ms rfl rfl) (.k (.c rfl) (.k (.c rfl) (.k (.c rfl) (.k (.ms rfl rfl) (.k (.c rfl) (.k (.ms rfl rfl) .z)))))))))))) .z)) (.f rfl (by kernel_rfl) .z)))))) (cjC (@Eq.refl AV (E_GConsort a0)) (cjC (Eq.refl true) (cjC (f21_ok a0 r43 (-1) 0 _ hr44 s_4) (cj1 (hc45)))))))))))))))))))) (kj6 false rfl)
        ·replace hj6 := Option.some.inj hj6; subst hj6
         let w_3 : AV := .agg [.i r27.2.2.1,v_9,.i r4b.1,v_8,v_6,.i 0,.i 0,v_7,.ms 2 0 r27.2.2.2.2.2.2.2.1.length,.fn 31 [],.ms 3 0 r27.2.2.2.2.2.2.2.2.length]
         exact yun1z (c5 53) [[],[0],[],[0,1,2],[0,1,2,3],[0,1,2,3,4],[0,1,2,3,4,5],[0,1,2,3,4,5,6],[0,1,2,3,4,5],[0,1,2,3,4,5,6,7,8],[0,1,2,3,4,5,6,7,8,9],[0,1,2,3,4,5,6,7,8,9,10],[0,1,2,3,4,5,6,7,8,9,10,11],[0,1,2,3,4,5,6,7,8,9,10,11,12],[0,1,2,3,4,5,6,7,8,9,10,11,12],[0,1,2,3,4,5,6,7,8,9,10,11,12,14],[0,1,2,3,4,5,6,7,8,9,10,11,12,13,14,15],[0,1,2,3,4,5,6,7,8,9,10,11,12,13,14,15,16],[0,1,2,3,4,5,6,7,8,9,10,11,12,13,14,15,16,17],[0,1,2,3,4,5,6,7,8,9,10,11,12,13,14,15,16,17,18],[0,1,2,3,4,5,6,7,8,9,10,11,12,13,14,15,16,17,18,19],[0,1,2,3,4,5,6,7,8,9,10,11,12,13,14,15,16,17,18,19,20]] [.light 0 false,.light 2 true,.heavy 1 [2],.heavy 3 [],.light 4 false,.light 5 false,.light 6 false,.light 8 true,.heavy 7 [8],.heavy 9 [],.light 10 false,.light 11 false,.light 12 false,.light 13 true,.light 14 false,.heavy 15 [13],.heavy 16 [],.light 17 false,.light 18 false,.heavy 19 [],.light 20 false,.light 21 false] [{},{},{ c := some (.i r27.2.2.1,s_2) },{ c := some (.i r38,s_2) },{},{},{},{},{ c := some (v_9,s_2) },{ c := some (.i r41,s_2) },{},{},{},{ g := false },{ g := false },{ g := false },{ g := false },{},{},{ g := false }] [2] [.bool false] ⟨[],25⟩ _ (by kernel_rfl) (cjC (callF (f19_1_ok (⟨(⟨r27.2.2.1⟩ : GCClock),r27.2.2.2.1,r4b.1,r27.2.2.2.2.1,r27.2.2.2.2.2.1,0,0,r27.2.2.2.2.2.2.1,(⟨r27.2.2.2.2.2.2.2.1⟩ : GCShelf_live),r27.2.2.2.2.2.2.2.2⟩ : GCPlayer) _ hr37) [(0,2),(1,3),(2,22),(3,23)] [(23,3),(22,2),(3,1),(2,0)] [0] [.mp 2 0 0] s_2 (.i r27.2.2.1) s_2 (by kernel_rfl) (.k (.mp rfl rfl) .z) (.c rfl) (.k rfl (.cells (.r (cleanMap _ _ cl_GTake))) (.k rfl (.cells (.r (cleanMap _ _ cl_GCLive))) (.k rfl (.cells (.r (cleanMap _ _ cl_GCDesk))) (.k rfl (.cells (.k (.a (.k (.c rfl) (.k (.c rfl) (.k (.c rfl) (.k (.c rfl) (.k (.ms rfl rfl) (.k (.c rfl) (.k (.c rfl) (.k (.c rfl) (.k (.ms rfl rfl) (.k (.c rfl) (.k (.ms rfl rfl) .z)))))))))))) .z)) .z)))) (.d (x' := b_5) rfl (by kernel_rfl) (.cells (.r (cleanMap _ _ cl_GTake))) (.d (x' := b_4) rfl (by kernel_rfl) (.cells (.r (cleanMap _ _ cl_GCLive))) (.d (x' := b_6) rfl (by kernel_rfl) (.cells (.r (cleanMap _ _ cl_GCDesk))) (.d (x' := .cells 11 [w_3]) rfl (by kernel_rfl) (.cells (.k (.a (.k (.c rfl) (.k (.c rfl) (.k (.c rfl) (.k (.c rfl) (.k (.ms rfl rfl) (.k (.c rfl) (.k (.c rfl) (.k (.c rfl) (.k (.ms rfl rfl) (.k (.c rfl) (.k (.ms rfl rfl) .z)))))))))))) .z)) (.f rfl (by kernel_rfl) .z)))))) (cjC (@Eq.refl AV (E_GConsort a0)) (cjC (f14_ok a0 _ hr38 s_2) (cjC (hc39) (cjC (Eq.refl true) (cjC (Eq.refl true) (cjC (callF (f24_1_ok (⟨(⟨r27.2.2.1⟩ : GCClock),r27.2.2.2.1,r4b.1,r27.2.2.2.2.1,r27.2.2.2.2.2.1,0,0,r27.2.2.2.2.2.2.1,(⟨r27.2.2.2.2.2.2.2.1⟩ : GCShelf_live),r27.2.2.2.2.2.2.2.2⟩ : GCPlayer) _ hr40) [(0,2),(1,3),(2,22),(3,23)] [(23,3),(22,2),(3,1),(2,0)] [0] [.mp 2 0 0] s_2 (.i r27.2.2.2.1) s_2 (by kernel_rfl) (.k (.mp rfl rfl) .z) (.c rfl) (.k rfl (.cells (.r (cleanMap _ _ cl_GTake))) (.k rfl (.cells (.r (cleanMap _ _ cl_GCLive))) (.k rfl (.cells (.r (cleanMap _ _ cl_GCDesk))) (.k rfl (.cells (.k (.a (.k (.c rfl) (.k (.c rfl) (.k (.c rfl) (.k (.c rfl) (.k (.ms rfl rfl) (.k (.c rfl) (.k (.c rfl) (.k (.c rfl) (.k (.ms rfl rfl) (.k (.c rfl) (.k (.ms rfl rfl) .z)))))))))))) .z)) .z)))) (.d (x' := b_5) rfl (by kernel_rfl) (.cells (.r (cleanMap _ _ cl_GTake))) (.d (x' := b_4) rfl (by kernel_rfl) (.cells (.r (cleanMap _ _ cl_GCLive))) (.d (x' := b_6) rfl (by kernel_rfl) (.cells (.r (cleanMap _ _ cl_GCDesk))) (.d (x' := .cells 11 [w_3]) rfl (by kernel_rfl) (.cells (.k (.a (.k (.c rfl) (.k (.c rfl) (.k (.c rfl) (.k (.c rfl) (.k (.ms rfl rfl) (.k (.c rfl) (.k (.c rfl) (.k (.c rfl) (.k (.ms rfl rfl) (.k (.c rfl) (.k (.ms rfl rfl) .z)))))))))))) .z)) (.f rfl (by kernel_rfl) .z)))))) (cjC (@Eq.refl AV (E_GConsort a0)) (cjC (Eq.refl true) (cjC (f14_ok a0 _ hr41 s_2) (cjC (Eq.refl true) (cjC (hc42) (cjC (Eq.refl false) (cjC (Eq.refl false) (cjC (Eq.refl false) (cj1 (Eq.refl false))))))))))))))))) (run_i 28 [] [2] [.bool false] (kj6 false rfl) (by intro i e; cases e <;> exact Nat.le_of_ble_eq_true rfl) (by kernel_rfl) (by kernel_rfl) (by kernel_rfl) (.k (.c rfl) .z) .z)
       ·replace hj6 := Option.some.inj hj6; subst hj6
        exact yun1z (c5 53) [[],[0],[],[0,1,2],[0,1,2,3],[0,1,2,3,4],[0,1,2,3,4,5],[0,1,2,3,4,5,6],[0,1,2,3,4,5],[0,1,2,3,4,5,6,7,8],[0,1,2,3,4,5,6,7,8,9],[0,1,2,3,4,5,6,7,8,9,10],[0,1,2,3,4,5,6,7,8,9,10,11],[0,1,2,3,4,5,6,7,8,9,10,11,12],[0,1,2,3,4,5,6,7,8,9,10,11,12],[0,1,2,3,4,5,6,7,8,9,10,11,12,14],[0,1,2,3,4,5,6,7,8,9,10,11,12,13,14,15],[0,1,2,3,4,5,6,7,8,9,10,11,12,13,14,15,16],[0,1,2,3,4,5,6,7,8,9,10,11,12,13,14,15,16,17],[0,1,2,3,4,5,6,7,8,9,10,11,12,13,14,15,16,17,18],[0,1,2,3,4,5,6,7,8,9,10,11,12,13,14,15,16,17,18,19],[0,1,2,3,4,5,6,7,8,9,10,11,12,13,14,15,16,17,18,19,20]] [.light 0 false,.light 2 true,.heavy 1 [2],.heavy 3 [],.light 4 false,.light 5 false,.light 6 false,.light 8 true,.heavy 7 [8],.heavy 9 [],.light 10 false,.light 11 false,.light 12 false,.light 13 true,.light 14 false,.heavy 15 [13],.heavy 16 [],.light 17 false,.light 18 false,.heavy 19 [],.light 20 false,.light 21 false] [{},{},{ c := some (.i r27.2.2.1,s_2) },{ c := some (.i r38,s_2) },{},{},{ g := false },{ g := false },{ g := false },{ g := false },{ g := false },{},{},{ g := false },{ g := false },{ g := false },{ g := false },{},{},{ g := false }] [2] [.bool false] ⟨[],25⟩ _ (by kernel_rfl) (cjC (callF (f19_1_ok (⟨(⟨r27.2.2.1⟩ : GCClock),r27.2.2.2.1,r4b.1,r27.2.2.2.2.1,r27.2.2.2.2.2.1,0,0,r27.2.2.2.2.2.2.1,(⟨r27.2.2.2.2.2.2.2.1⟩ : GCShelf_live),r27.2.2.2.2.2.2.2.2⟩ : GCPlayer) _ hr37) [(0,2),(1,3),(2,22),(3,23)] [(23,3),(22,2),(3,1),(2,0)] [0] [.mp 2 0 0] s_2 (.i r27.2.2.1) s_2 (by kernel_rfl) (.k (.mp rfl rfl) .z) (.c rfl) (.k rfl (.cells (.r (cleanMap _ _ cl_GTake))) (.k rfl (.cells (.r (cleanMap _ _ cl_GCLive))) (.k rfl (.cells (.r (cleanMap _ _ cl_GCDesk))) (.k rfl (.cells (.k (.a (.k (.c rfl) (.k (.c rfl) (.k (.c rfl) (.k (.c rfl) (.k (.ms rfl rfl) (.k (.c rfl) (.k (.c rfl) (.k (.c rfl) (.k (.ms rfl rfl) (.k (.c rfl) (.k (.ms rfl rfl) .z)))))))))))) .z)) .z)))) (.d (x' := b_5) rfl (by kernel_rfl) (.cells (.r (cleanMap _ _ cl_GTake))) (.d (x' := b_4) rfl (by kernel_rfl) (.cells (.r (cleanMap _ _ cl_GCLive))) (.d (x' := b_6) rfl (by kernel_rfl) (.cells (.r (cleanMap _ _ cl_GCDesk))) (.d (x' := .cells 11 [.agg [.i r27.2.2.1,v_9,.i r4b.1,v_8,v_6,.i 0,.i 0,v_7,.ms 2 0 r27.2.2.2.2.2.2.2.1.length,.fn 31 [],.ms 3 0 r27.2.2.2.2.2.2.2.2.length]]) rfl (by kernel_rfl) (.cells (.k (.a (.k (.c rfl) (.k (.c rfl) (.k (.c rfl) (.k (.c rfl) (.k (.ms rfl rfl) (.k (.c rfl) (.k (.c rfl) (.k (.c rfl) (.k (.ms rfl rfl) (.k (.c rfl) (.k (.ms rfl rfl) .z)))))))))))) .z)) (.f rfl (by kernel_rfl) .z)))))) (cjC (@Eq.refl AV (E_GConsort a0)) (cjC (f14_ok a0 _ hr38 s_2) (cjC (hc39) (cjC (Eq.refl false) (cjC (Eq.refl false) (cjC (Eq.refl false) (cjC (Eq.refl false) (cjC (Eq.refl false) (cjC (Eq.refl false) (cjC (Eq.refl false) (cjC (Eq.refl false) (cj1 (Eq.refl false)))))))))))))) (run_i 28 [] [2] [.bool false] (kj6 false rfl) (by intro i e; cases e <;> exact Nat.le_of_ble_eq_true rfl) (by kernel_rfl) (by kernel_rfl) (by kernel_rfl) (.k (.c rfl) .z) .z)
      ·rintro _ rfl
       refine run_t (by kernel_rfl) ?_
       replace h := Option.some.inj h; subst h
       exact fin_r (by kernel_rfl) rfl
end Go.Proofs.Ytpljabnngpnieaa
